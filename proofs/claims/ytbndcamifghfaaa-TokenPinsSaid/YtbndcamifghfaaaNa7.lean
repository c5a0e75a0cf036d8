/- Making, as the program does. Conditions: none. -/
import Derived.Test.YtbndcamifghfaaaNa6
namespace Go.Abs.Na
open Go Go.Proofs Go.Abs
set_option maxRecDepth 100000
set_option maxHeartbeats 4000000
set_option linter.unusedSimpArgs false
set_option linter.unusedVariables false
attribute [local simp] instA
attribute [-simp] mkv
attribute [local simp] mkv_hd hdA_cons hdA_ob hdA_ob'
theorem mq1_eq (a1 a2 : Int) (o : Ob) (a3 : Int) (a4 a5 : Bool) (q : Ob) : mq1S [.agg (.int .u64 a1 :: .int .i64 a2 :: (o.cells ++ [.int .i64 a3, .bool a4, .bool a5])), .ptr 0 0 0 0] [obB q] = some (.bool (a1 == oid q), [obB q]) :=
  mkS2_eq (enc := encO) (res := fun d => (.bool (d.1.id == oid d.2), [obB d.2])) encO_inj (⟨a1, a2, o, a3, a4, a5⟩, q)
def encJ (d : {l : List Tok // l.length ≤ 9000} × Ob) : List AV × List ABlk := ([.list 41 (d.1.1.map Tok.c), .fn (.func 86) [] [.ptr 0 0 0 0]], [obB d.2])
theorem encJ_inj {β : Type} {f : {l : List Tok // l.length ≤ 9000} × Ob → β} : ∀ x y, encJ x = encJ y → f x = f y := fun x y h => by
  obtain ⟨⟨a, ha⟩, b⟩ := x
  obtain ⟨⟨a', ha'⟩, b'⟩ := y
  simp only [encJ, obB, Prod.mk.injEq, List.cons.injEq, AV.list.injEq, ABlk.mk.injEq, true_and, and_true] at h
  cases rows_inj h.1
  cases Td.ext h.2
  rfl
noncomputable def ixmS : SpecFn := mkS2 encJ fun d => (.int .i64 (idxF (oid d.2) 0 d.1.1), [obB d.2])
theorem ixm_eq (l : List Tok) (hl : l.length ≤ 9000) (q : Ob) : ixmS [.list 41 (l.map Tok.c), .fn (.func 86) [] [.ptr 0 0 0 0]] [obB q] = some (.int .i64 (idxF (oid q) 0 l), [obB q]) :=
  mkS2_eq (enc := encJ) (res := fun d => (.int .i64 (idxF (oid d.2) 0 d.1.1), [obB d.2])) encJ_inj (⟨l, hl⟩, q)
noncomputable def ixm_specs : NL Spec := [(86, ⟨3, mq1S⟩)]
theorem ixm_specs_ok : ∀ p ∈ ixm_specs, FnC Try.prog p.1 p.2.fn := by
  simp only [ixm_specs, List.mem_cons, List.not_mem_nil, or_false]
  rintro p rfl
  exact mq1_ok
attribute [local simp] ixm_specs
theorem ixm_ok : FnC Try.prog 160 ixmS := by
  refine FnC.walkB 160 (fn := Try.f160) Try.func160 rfl (by kernel_rfl) (fun x b hb => by simp [encJ] at hb; rw [hb]; rfl) fun x => ?_
  obtain ⟨⟨l, hl⟩, q⟩ := x
  change W _ (RetB _ _ 1 (.int .i64 (idxF (oid q) 0 l)) [obB q]) _ _ ⟨19, [(0, .list 41 (l.map Tok.c)), (1, .fn (.func 86) [] [.ptr 0 0 0 0])], [(0, obB q)]⟩
  have cap : l.length ≤ 9223372036854775807 := by have := capT (n := l.length) (by omega); exact this
  repeat' (first | refine ZV ?_ | refine ZB tm ixm_specs_ok ?_ | refine ZH (fun hb => ?_) (fun hb => ?_) | refine ZJ (by conv => lhs; simp [cap]) ?_ | refine ZA (fun hb => ?_) (fun hb => ?_))
  refine W.loop rfl (ι := { p : Nat × NL ABlk // p.1 ≤ l.length ∧ idxF (oid q) 0 l = idxF (oid q) p.1 (l.drop p.1) ∧ lk p.2 0 = some (obB q) })
    (fun p => ⟨19, [(0, .list 41 (l.map Tok.c)), (1, .fn (.func 86) [] [.ptr 0 0 0 0]), (7, .int .i64 l.length), (8, .int .i64 (p.1.1 : Nat))], p.1.2⟩) (fun p => l.length - p.1.1)
    ⟨(0, _), by simp, rfl, rfl⟩ (AS.le_of rfl ⟨rfl, rfl, rfl, rfl, trivial⟩ (fun _ => rfl)) ?_
  rintro ⟨⟨k, h⟩, hk, hf, h1⟩
  dsimp only at hk hf h1 ⊢
  by_cases hk2 : k = l.length
  · subst hk2
    rw [List.drop_length] at hf
    rw [hf]
    simp only [idxF]
    repeat' (first | refine ZV ?_ | refine ZB tm ixm_specs_ok ?_ | refine ZH (fun hb => ?_) (fun hb => ?_) | refine ZJ (by conv => lhs; simp) ?_ | refine ZA (fun hb => ?_) (fun hb => ?_))
    simp only [obB] at h1 ⊢
    first | exact retE2_ok false (by conv => lhs; simp [retE2, frqT, frqV, frqVs, frqL, frq1, reachE, blkRefs, outE, nodupE, firstE, seqO, expB2, expF, refsB, refsL, AV.refs, AV.ren, renL, renB, List.range, List.range.loop, resVs, resV, pack, h1]) | fail "no return here"
  · have hlt : k < l.length := by omega
    obtain ⟨t, hr⟩ := get_lt hlt
    have hm : (l.map Tok.c)[k]? = some t.c := by rw [List.getElem?_map, hr]; rfl
    have q1 : (k : Int) < l.length := by omega
    have q2 : ¬ l.length ≤ k := by omega
    have hw : IntKind.i64.wrap ((k : Int) + 1) = ((k + 1 : Nat) : Int) := w64 (by omega) (by omega)
    rw [idxF_drop hr] at hf
    obtain ⟨a1, a2, o, a3, a4, a5⟩ := t
    have cf := mq1_eq a1 a2 o a3 a4 a5 q
    simp only [Tok.c, obB] at hm cf h1
    by_cases hi : a1 = oid q
    · have e1 : (a1 == oid q) = true := by simp [hi]
      rw [if_pos hi] at hf
      rw [hf]
      rw [e1] at cf
      repeat' (first | refine ZV ?_ | refine ZB tm ixm_specs_ok ?_ | refine ZH (fun hb => ?_) (fun hb => ?_) | refine ZJ (by conv => lhs; simp [q1, q2, hm, h1, cf]) ?_ | refine ZA (fun hb => ?_) (fun hb => ?_))
      simp only [obB]
      first | exact retE2_ok false (by conv => lhs; simp [retE2, frqT, frqV, frqVs, frqL, frq1, reachE, blkRefs, outE, nodupE, firstE, seqO, expB2, expF, refsB, refsL, AV.refs, AV.ren, renL, renB, List.range, List.range.loop, resVs, resV, pack, h1]) | fail "no return here"
    · have e1 : (a1 == oid q) = false := by simp [hi]
      rw [if_neg hi] at hf
      rw [e1] at cf
      repeat' (first | refine ZV ?_ | refine ZB tm ixm_specs_ok ?_ | refine ZH (fun hb => ?_) (fun hb => ?_) | refine ZJ (by conv => lhs; simp [q1, q2, hm, h1, cf, hw]) ?_ | refine ZA (fun hb => ?_) (fun hb => ?_))
      exact ⟨⟨(k + 1, _), hlt, hf, by simp [lk_st, h1, obB]⟩, by dsimp only; omega, AS.le_of rfl ⟨rfl, rfl, rfl, rfl, trivial⟩ (fun _ => rfl)⟩
/-! ### Whether it is there -/
noncomputable def ctmS : SpecFn := mkS2 encJ fun d => (.bool (decide (0 ≤ idxF (oid d.2) 0 d.1.1)), [obB d.2])
theorem ctm_eq (l : List Tok) (hl : l.length ≤ 9000) (q : Ob) : ctmS [.list 41 (l.map Tok.c), .fn (.func 86) [] [.ptr 0 0 0 0]] [obB q] = some (.bool (decide (0 ≤ idxF (oid q) 0 l)), [obB q]) :=
  mkS2_eq (enc := encJ) (res := fun d => (.bool (decide (0 ≤ idxF (oid d.2) 0 d.1.1)), [obB d.2])) encJ_inj (⟨l, hl⟩, q)
noncomputable def ctm_specs : NL Spec := [(160, ⟨3, ixmS⟩)]
theorem ctm_specs_ok : ∀ p ∈ ctm_specs, FnC Try.prog p.1 p.2.fn := by
  simp only [ctm_specs, List.mem_cons, List.not_mem_nil, or_false]
  rintro p rfl
  exact ixm_ok
attribute [local simp] ctm_specs
theorem ctm_ok : FnC Try.prog 87 ctmS := by
  refine FnC.walkB 87 (fn := Try.f87) Try.func87 rfl (by kernel_rfl) (fun x b hb => by simp [encJ] at hb; rw [hb]; rfl) fun x => ?_
  obtain ⟨⟨l, hl⟩, q⟩ := x
  change W _ (RetB _ _ 1 (.bool (decide (0 ≤ idxF (oid q) 0 l))) [obB q]) _ _ ⟨9, [(0, .list 41 (l.map Tok.c)), (1, .fn (.func 86) [] [.ptr 0 0 0 0])], [(0, obB q)]⟩
  have cf := ixm_eq l hl q
  simp only [obB] at cf ⊢
  repeat' (first | refine ZV ?_ | refine ZB tm ctm_specs_ok ?_ | refine ZH (fun hb => ?_) (fun hb => ?_) | refine ZJ (by conv => lhs; simp [cf]) ?_ | refine ZA (fun hb => ?_) (fun hb => ?_))
  first | exact retE2_ok false (by conv => lhs; simp [retE2, frqT, frqV, frqVs, frqL, frq1, reachE, blkRefs, outE, nodupE, firstE, seqO, expB2, expF, refsB, refsL, AV.refs, AV.ren, renL, renB, List.range, List.range.loop, resVs, resV, pack]) | fail "no return here"
theorem idxF_has (l : List Tok) (id : Int) : decide (0 ≤ idxF id 0 l) = (fnd id l).isSome := by
  rcases idxF_fnd id l 0 with ⟨h1, h2⟩ | ⟨j, t, h1, h2, h3⟩
  · rw [h1, h2]; rfl
  · rw [h2, h3]
    simp
/-! ### Making -/
noncomputable def mkp_specs : NL Spec := [(85, ⟨1, spS⟩), (69, ⟨1, vaS⟩), (87, ⟨3, ctmS⟩), (76, ⟨3, wmkS⟩)]
theorem mkp_specs_ok : ∀ p ∈ mkp_specs, FnC Try.prog p.1 p.2.fn := by
  simp only [mkp_specs, List.mem_cons, List.not_mem_nil, or_false]
  rintro p (rfl | rfl | rfl | rfl)
  · exact sp_id
  · exact vap_ok
  · exact ctm_ok
  · exact wmk_ok
attribute [local simp] mkp_specs
theorem mkep_ok : FnC Try.prog 32 mkeS := by
  refine FnC.walkN 32 (fn := Try.f32) [69, 51] Try.func32 rfl (by kernel_rfl) (fun d => ?_) (fun d => ⟨_, rT_nrm _ _ _⟩)
  obtain ⟨d, q⟩ := d
  have cv := vaS_eq d
  have cs := spS_eq (oid q)
  have cc := ctm_eq d.toks d.bd q
  have cw := fun hs hf => wmk_eq d.node d.toks d.bd q hs hf
  rw [idxF_has] at cc
  simp only [Tks.v] at cv
  change W _ (RetNf _ _ _ (rT (mkeL d q).1 (mkeL d q).2.1 (mkeL d q).2.2) []) _ _ ⟨45, [(0, .agg [.int .i64 d.node, .list 41 (d.toks.map Tok.c)]), (1, .agg q.cells)], []⟩
  generalize hR : mkeL d q = R
  unfold mkeL at hR
  dsimp only at hR
  generalize hqi : oid q = qi at *
  generalize sp0 qi = s0 at *
  generalize sp1 qi = s1 at *
  generalize sp2 qi = s2 at *
  simp only [obB] at cc cw
  cases hv : valid d.node d.toks with
  | false =>
    rw [if_pos hv] at hR
    subst hR
    rw [hv] at cv
    repeat' (first | refine ZV ?_ | refine ZB tm mkp_specs_ok ?_ | refine ZH (fun hb => ?_) (fun hb => ?_) | refine ZJ (by conv => lhs; simp [cv, cs, hqi]) ?_ | refine ZA (fun hb => ?_) (fun hb => ?_))
    refine RetNf.dataE rfl (by conv => lhs; simp) (by conv => lhs; simp) (by first | rfl | simp [inlT, inlV]) (rT_nrm0 1)
  | true =>
    rw [if_neg (by simp [hv])] at hR
    rw [hv] at cv
    have hs := valid_srt hv
    by_cases h2 : qi = 0
    · rw [if_pos h2] at hR
      subst hR
      have e2 : (qi == 0) = true := by simp [h2]
      repeat' (first | refine ZV ?_ | refine ZB tm mkp_specs_ok ?_ | refine ZH (fun hb => ?_) (fun hb => ?_) | refine ZJ (by conv => lhs; simp [cv, cs, hqi, e2]) ?_ | refine ZA (fun hb => ?_) (fun hb => ?_))
      refine RetNf.dataE rfl (by conv => lhs; simp) (by conv => lhs; simp) (by first | rfl | simp [inlT, inlV]) (rT_nrm0 2)
    · rw [if_neg h2] at hR
      have e2 : (qi == 0) = false := by simp [h2]
      by_cases h3 : s0 = d.node
      · rw [if_neg (by simp [h3])] at hR
        have e3 : (s0 != d.node) = false := by simp [h3]
        cases hf : fnd qi d.toks with
        | some t =>
          have ht := valid_held hv (fnd_get hs hf).1
          rw [hf, Option.getD_some] at hR
          rw [hf] at cc
          have hR : (0, [], 7) = R := by
            by_cases h4 : t.mode = 0
            · rw [if_neg (by simp [h4]), if_pos (by rcases ht with h | h; exact absurd h4 h; exact h)] at hR
              exact hR
            · rw [if_pos h4] at hR
              exact hR
          subst hR
          repeat' (first | refine ZV ?_ | refine ZB tm mkp_specs_ok ?_ | refine ZH (fun hb => ?_) (fun hb => ?_) | refine ZJ (by conv => lhs; simp [cv, cs, hqi, e2, e3, cc]) ?_ | refine ZA (fun hb => ?_) (fun hb => ?_))
          refine RetNf.dataE rfl (by conv => lhs; simp) (by conv => lhs; simp) (by first | rfl | simp [inlT, inlV]) (rT_nrm0 7)
        | none =>
          rw [hf] at hR cc
          have cw := cw hs hf
          rw [if_neg (by simp [tok0]), if_neg (by simp [tok0])] at hR
          generalize put ⟨qi, 2, q, 0, false, false⟩ d.toks = L at *
          subst hR
          repeat' (first | refine ZV ?_ | refine ZB tm mkp_specs_ok ?_ | refine ZH (fun hb => ?_) (fun hb => ?_) | refine ZJ (by conv => lhs; simp [cv, cs, hqi, e2, e3, cc, cw]) ?_ | refine ZA (fun hb => ?_) (fun hb => ?_))
          refine RetNf.dataE rfl (by conv => lhs; simp) (by conv => lhs; simp) (by first | rfl | simp [inlT, inlV]) ?_
          exact rT_nrm _ L 0
      · rw [if_pos h3] at hR
        subst hR
        have e3 : (s0 != d.node) = true := by simp [h3]
        repeat' (first | refine ZV ?_ | refine ZB tm mkp_specs_ok ?_ | refine ZH (fun hb => ?_) (fun hb => ?_) | refine ZJ (by conv => lhs; simp [cv, cs, hqi, e2, e3]) ?_ | refine ZA (fun hb => ?_) (fun hb => ?_))
        refine RetNf.dataE rfl (by conv => lhs; simp) (by conv => lhs; simp) (by first | rfl | simp [inlT, inlV]) (rT_nrm0 10)
end Go.Abs.Na
namespace Go.Abs.Na
open Go Go.Proofs Go.Abs
set_option maxRecDepth 100000
set_option maxHeartbeats 4000000
set_option linter.unusedSimpArgs false
set_option linter.unusedVariables false
attribute [local simp] instA
attribute [-simp] mkv
attribute [local simp] mkv_hd hdA_cons hdA_ob hdA_ob'
noncomputable def wgbS : SpecFn := mkS2 (fun x : WF × Int × Int => ([x.1.1.1.v, .int .u64 x.1.1.2.1, .fn (.func 163) [] [.ptr 0 0 0 0, .ptr 1 0 0 0]], [gmB x.2.1 x.2.2 x.1.1.2.1 0 zO, u8B x.1.1.2.1])) fun x => (.agg [.int .i64 x.1.1.1.node, .sl 2 0 0 (wiF (bsT x.1.1.1.toks x.1.1.2.1) ⟨x.1.1.2.1, 0, zOb, x.1.1.2.2.want, false, false⟩ x.1.1.1.toks).length], [gmB x.2.1 x.2.2 x.1.1.2.1 x.1.1.2.2.mode (gOb x.1.1.2.2), u8B x.1.1.2.1, tkB0 (wiF (bsT x.1.1.1.toks x.1.1.2.1) ⟨x.1.1.2.1, 0, zOb, x.1.1.2.2.want, false, false⟩ x.1.1.1.toks)])
attribute [local simp] wgv_specs cp2_eq bst_eq
theorem wgb_ok : FnC Try.prog 76 wgbS := by
  refine FnC.walkB 76 (fn := Try.f76) Try.func76 rfl (by kernel_rfl) (fun x b hb => by simp at hb; rcases hb with rfl | rfl <;> rfl) fun x => ?_
  obtain ⟨⟨⟨⟨nd, l, hl⟩, id, t⟩, ht, hi⟩, fr, to⟩ := x
  dsimp only at ht hi
  obtain ⟨i, hE⟩ : ∃ i, bsT l id = i := ⟨_, rfl⟩
  rw [hE] at ht
  have hA : hasAt l i id = true := by simp [hasAt, ht, hi]
  have hil : i < l.length := (List.getElem?_eq_some_iff.1 ht).1
  have hm : (l.map Tok.c)[i]? = some t.c := by rw [List.getElem?_map, ht]; rfl
  obtain ⟨a1, a2, o, a3, a4, a5⟩ := t
  change W _ (RetB _ _ 2 (.agg [.int .i64 nd, .sl 2 0 0 (wiF (bsT l id) ⟨id, 0, zOb, a3, false, false⟩ l).length]) [gmB fr to id a2 (gOb ⟨a1, a2, o, a3, a4, a5⟩), u8B id, tkB0 (wiF (bsT l id) ⟨id, 0, zOb, a3, false, false⟩ l)]) _ _ ⟨62, [(0, .agg [.int .i64 nd, .list 41 (l.map Tok.c)]), (1, .int .u64 id), (2, .fn (.func 163) [] [.ptr 0 0 0 0, .ptr 1 0 0 0])], [(0, gmB fr to id 0 zO), (1, u8B id)]⟩
  have hl2 : l.length ≤ 9001 := by omega
  simp only [Tok.c] at hm hi
  have q2 : ¬ l.length ≤ i := by omega
  have q3 : (i : Int) < l.length := by omega
  have q4 : l.length ≤ 1000000 := by omega
  have hw : IntKind.i64.wrap ((i : Int) + 1) = ((i + 1 : Nat) : Int) := w64 (by omega) (by omega)
  have n1 : i ≤ min i l.length := by omega
  have n2 : ∀ L : List (List AV), L.length = l.length → List.take (i + (l.length - (i + 1))) (List.take i L ++ List.drop (i + 1) L) = List.take i L ++ List.drop (i + 1) L := fun L h => List.take_of_length_le (by simp [h]; omega)
  have n3 : ∀ X, List.take l.length ((List.map Tok.c l).set i X) = (List.map Tok.c l).set i X := fun X => List.take_of_length_le (by simp)
  have hs : ∀ X, ((List.map Tok.c l).set i X)[i]? = some X := fun X => List.getElem?_set_self (by simpa using hil)
  have cg := gv1_eq a1 a2 o a3 a4 a5 fr to id (gOb ⟨a1, a2, o, a3, a4, a5⟩) rfl
  have r1 := gOb_ren ⟨a1, a2, o, a3, a4, a5⟩
  have r2 := gOb_refs ⟨a1, a2, o, a3, a4, a5⟩
  have r3 := gOb_len ⟨a1, a2, o, a3, a4, a5⟩
  have hz := tok_nrm0 id 0 a3 false false
  generalize gOb ⟨a1, a2, o, a3, a4, a5⟩ = oc at *
  have hzl : (List.map (nrmL Try.prog (leafs Try.prog 77)) (List.map Tok.c l)).set i (⟨id, 0, zOb, a3, false, false⟩ : Tok).c = (List.map Tok.c l).set i (⟨id, 0, zOb, a3, false, false⟩ : Tok).c := by rw [nrm_toks]
  generalize zOb = zq at *
  simp only [gmB, u8B, zO, List.cons_append, List.nil_append] at cg hz ⊢
  rw [hi] at cg
  repeat' (first | refine ZV ?_ | refine ZB (id := 0) tm wgv_specs_ok ?_ | refine ZB (id := 1) tm wgv_specs_ok ?_ | refine ZB (id := 2) tm wgv_specs_ok ?_ | refine ZB (id := 3) tm wgv_specs_ok ?_ | refine ZB (id := 4) tm wgv_specs_ok ?_ | refine ZB (id := 5) tm wgv_specs_ok ?_ | refine ZH (fun hb => ?_) (fun hb => ?_) | refine ZJ (by conv => lhs; simp [hl, hl2, tkB0, bstR, hE, hA, hm, take_acc, hi, q2, q3, hw, del_eq, q4, cg, r1, r2]) ?_ | refine ZA (fun hb => ?_) (fun hb => ?_))
  refine W.nrmB 208 (leafs Try.prog 77) rfl rfl ?_
  simp only [List.map_set, nrm_toks, hz]
  repeat' (first | refine ZV ?_ | refine ZB tm wgv_specs_ok ?_ | refine ZH (fun hb => ?_) (fun hb => ?_) | refine ZJ (by conv => lhs; simp [hs, hl, hl2, tkB0, bstR, hE, hA, hm, take_acc, hi, q2, q3, hw, del_eq, q4, cg, r1, r2]) ?_ | refine ZA (fun hb => ?_) (fun hb => ?_))
  · have hf : wiF (bsT l id) ⟨id, 0, zq, a3, false, false⟩ l = l.take i ++ l.drop (i + 1) := by rw [hE, wiF, if_pos (by simpa [Tok.gone] using hb)]
    have hn : (l.take i ++ l.drop (i + 1)).length = i + (l.length - (i + 1)) := by simp; omega
    rw [hf, hn]
    exact RetB.raw [0, 1, 208] rfl (by conv => lhs; simp) (by decide) (by rintro j hj; rcases (show j = 0 ∨ j = 1 by omega) with rfl | rfl <;> exact ⟨rfl, rfl⟩) (by simp [r1, tkB0, dropset]) (by simp)
  · have hf : wiF (bsT l id) ⟨id, 0, zq, a3, false, false⟩ l = l.set i ⟨id, 0, zq, a3, false, false⟩ := by rw [hE, wiF, if_neg (by simpa [Tok.gone] using hb)]
    rw [hf, List.length_set]
    exact RetB.raw [0, 1, 208] rfl (by conv => lhs; simp) (by decide) (by rintro j hj; rcases (show j = 0 ∨ j = 1 by omega) with rfl | rfl <;> exact ⟨rfl, rfl⟩) (by simp [r1, tkB0]) (by simp)
/-! ### Giving -/
theorem wgb_eq (n : Int) (l : List Tok) (hl : l.length ≤ 9000) (id fr to : Int) (t : Tok) (hs : Srt l) (hf : fnd id l = some t) : wgbS [.agg [.int .i64 n, .list 41 (l.map Tok.c)], .int .u64 id, .fn (.func 163) [] [.ptr 0 0 0 0, .ptr 1 0 0 0]] [gmB fr to id 0 zO, u8B id] = some (.agg [.int .i64 n, .sl 2 0 0 (put (bckT t) l).length], [gmB fr to id t.mode (gOb t), u8B id, tkB0 (put (bckT t) l)]) := by
  obtain ⟨h1, h2⟩ := fnd_get hs hf
  subst h2
  rw [← wiF_put (t' := bckT t) hs hf]
  exact mkS2_eq (enc := fun x : WF × Int × Int => ([x.1.1.1.v, .int .u64 x.1.1.2.1, .fn (.func 163) [] [.ptr 0 0 0 0, .ptr 1 0 0 0]], [gmB x.2.1 x.2.2 x.1.1.2.1 0 zO, u8B x.1.1.2.1])) (res := fun x : WF × Int × Int => (.agg [.int .i64 x.1.1.1.node, .sl 2 0 0 (wiF (bsT x.1.1.1.toks x.1.1.2.1) ⟨x.1.1.2.1, 0, zOb, x.1.1.2.2.want, false, false⟩ x.1.1.1.toks).length], [gmB x.2.1 x.2.2 x.1.1.2.1 x.1.1.2.2.mode (gOb x.1.1.2.2), u8B x.1.1.2.1, tkB0 (wiF (bsT x.1.1.1.toks x.1.1.2.1) ⟨x.1.1.2.1, 0, zOb, x.1.1.2.2.want, false, false⟩ x.1.1.1.toks)])) (fun x y h => by
    obtain ⟨x, p, q⟩ := x
    obtain ⟨y, r, s⟩ := y
    simp only [gmB, u8B, Prod.mk.injEq, List.cons.injEq, AV.int.injEq, ABlk.mk.injEq, true_and, and_true] at h
    cases WF.ext (Tks.v_inj h.1.1) h.1.2
    obtain ⟨-, ⟨rfl, rfl, -⟩, -⟩ := h
    rfl) ((⟨(⟨n, l, hl⟩, t.id, t), h1, rfl⟩ : WF), fr, to)
theorem gOb_cel (t : Tok) : (gOb t).all AV.cellish = true := by
  unfold gOb
  split
  · simp
  · simp [zO]
theorem gOb_inl (t : Tok) : (gOb t).all AV.isInl = true := by
  unfold gOb
  split
  · simp
  · simp [zO]
/-- A token that is given back, with the new block. -/
def GI := { x : Tks × Int × Int × Tok // Srt x.1.toks ∧ fnd x.2.1 x.1.toks = some x.2.2.2 }
theorem GI.ext {x y : GI} (h1 : x.1.1 = y.1.1) (h2 : x.1.2.1 = y.1.2.1) (h3 : x.1.2.2.1 = y.1.2.2.1) : x = y := by
  obtain ⟨⟨d, i, m, t⟩, h, hi⟩ := x
  obtain ⟨⟨d', i', m', t'⟩, h', hi'⟩ := y
  dsimp only at h1 h2 h3 hi hi'
  subst h1 h2 h3
  rw [hi] at hi'
  cases hi'
  rfl
noncomputable def gvpS : SpecFn := mkS2 (fun x : GI => ([x.1.1.v, .int .u64 x.1.2.1, .int .i64 x.1.2.2.1], [])) fun x => (.tup [.agg [.int .i64 x.1.1.node, .sl 0 0 0 (put (bckT x.1.2.2.2) x.1.1.toks).length], .agg (bckM x.1.1.node x.1.2.2.2 x.1.2.2.1).v], [tkB0 (put (bckT x.1.2.2.2) x.1.1.toks)])
theorem gvp_eq (n : Int) (l : List Tok) (hl : l.length ≤ 9000) (id to : Int) (t : Tok) (hs : Srt l) (hf : fnd id l = some t) : gvpS [.agg [.int .i64 n, .list 41 (l.map Tok.c)], .int .u64 id, .int .i64 to] [] = some (.tup [.agg [.int .i64 n, .sl 0 0 0 (put (bckT t) l).length], .agg (bckM n t to).v], [tkB0 (put (bckT t) l)]) :=
  mkS2_eq (enc := fun x : GI => ([x.1.1.v, .int .u64 x.1.2.1, .int .i64 x.1.2.2.1], [])) (res := fun x : GI => (.tup [.agg [.int .i64 x.1.1.node, .sl 0 0 0 (put (bckT x.1.2.2.2) x.1.1.toks).length], .agg (bckM x.1.1.node x.1.2.2.2 x.1.2.2.1).v], [tkB0 (put (bckT x.1.2.2.2) x.1.1.toks)])) (fun x y h => by
    simp only [Prod.mk.injEq, List.cons.injEq, AV.int.injEq, true_and, and_true] at h
    cases GI.ext (Tks.v_inj h.1) h.2.1 h.2.2
    rfl) (⟨(⟨n, l, hl⟩, id, to, t), hs, hf⟩ : GI)
theorem gOb_nrm (nd to : Int) (t : Tok) : nrmR Try.prog [50] (.agg (.int .i64 nd :: .int .i64 to :: .int .i64 4 :: .int .u64 t.id :: .int .i64 t.mode :: (gOb t ++ [.int .u64 0, .int .i64 0, .int .u64 0, .int .i64 0]))) = .agg (bckM nd t to).v := by
  unfold gOb
  split
  · rename_i h
    rw [show (.int .i64 nd :: .int .i64 to :: .int .i64 4 :: .int .u64 t.id :: .int .i64 t.mode :: (t.obj.cells ++ [.int .u64 0, .int .i64 0, .int .u64 0, .int .i64 0]) : List AV) = (bckM nd t to).v by simp [bckM, h]]
    simp only [nrmR, nrmV, msg_nrm]
  · rename_i h
    simp only [nrmR, nrmV]
    rw [msg_nrm0]
    simp [bckM, h]
noncomputable def gvp_specs : NL Spec := [(76, ⟨3, wgbS⟩)]
theorem gvp_specs_ok : ∀ p ∈ gvp_specs, FnC Try.prog p.1 p.2.fn := by
  simp only [gvp_specs, List.mem_cons, List.not_mem_nil, or_false]
  rintro p rfl
  exact wgb_ok
attribute [local simp] gvp_specs
theorem gvp_ok : FnC Try.prog 94 gvpS := by
  refine FnC.walkBN 94 (fn := Try.f94) [69, 50] Try.func94 rfl (by kernel_rfl) (fun x b hb => by simp at hb) (fun x => ?_) (fun x => ?_)
  · obtain ⟨⟨⟨nd, l, hl⟩, id, to, t⟩, hs, hf⟩ := x
    dsimp only at hs hf
    have cw := wgb_eq nd l hl id nd to t hs hf
    have ht := (fnd_get hs hf).2
    change W _ (RetBN _ _ _ 0 (.tup [.agg [.int .i64 nd, .sl 0 0 0 (put (bckT t) l).length], .agg (bckM nd t to).v]) [tkB0 (put (bckT t) l)]) _ _ ⟨21, [(0, .agg [.int .i64 nd, .list 41 (l.map Tok.c)]), (1, .int .u64 id), (2, .int .i64 to)], []⟩
    have hg := gOb_nrm nd to t
    have r1 := gOb_ren t
    have r2 := gOb_refs t
    have r3 := gOb_len t
    have hc := gOb_cel t
    have hi := gOb_inl t
    generalize gOb t = oc at *
    generalize put (bckT t) l = L at *
    have r4 : ∀ (l : List AV) (n : Nat), 36 ≤ n → (oc ++ l).take n = oc ++ l.take (n - 36) := fun l n h => by rw [List.take_append, r3, List.take_of_length_le (by omega)]
    have r5 : ∀ (l : List AV) (n : Nat), 36 ≤ n → (oc ++ l).drop n = l.drop (n - 36) := fun l n h => by rw [List.drop_append, r3, List.drop_eq_nil_of_le (by omega), List.nil_append]
    have r6 : ∀ b : Bool, oc.all (fun x => x.cellish && (!b || x.isInl)) = true := fun b => by
      rw [List.all_eq_true] at hc hi ⊢
      intro x hx
      simp [hc x hx, hi x hx]
    simp only [gmB, u8B, zO, tkB0, List.cons_append, List.nil_append] at cw
    repeat' (first | refine ZV ?_ | refine ZB tm gvp_specs_ok ?_ | refine ZH (fun hb => ?_) (fun hb => ?_) | refine ZJ (by conv => lhs; simp [cw, r1, r2, r3, hc, r4, r5, hi, r6]) ?_ | refine ZA (fun hb => ?_) (fun hb => ?_))
    refine RetBN.dataE false [304] rfl (by conv => lhs; simp [r3, r4]) (by conv => lhs; simp [frqT]) (by decide) (fun j hj => absurd hj (by omega)) (by simp [tkB0]) (by conv => lhs; simp [r1]) ?_
    simp only [nrmR] at hg
    rw [ht] at hg
    simp only [nrmR, nrmL, hg]
    simp only [nrmV, tksLeafs, nrmL]
  · obtain ⟨⟨⟨nd, l, hl⟩, id, to, t⟩, hs, hf⟩ := x
    refine ⟨.tup [.agg [.int .i64 nd, .sl 0 0 0 (put (bckT t) l).length], .agg (bckM nd t to).v], ?_⟩
    simp only [nrmR, nrmL, nrmV, msg_nrm, tksLeafs]
end Go.Abs.Na
namespace Go.Abs.Na
open Go Go.Proofs Go.Abs
set_option maxRecDepth 100000
set_option maxHeartbeats 4000000
set_option linter.unusedSimpArgs false
set_option linter.unusedVariables false
def dues (l : List Tok) : List Tok := l.filter (·.due)
/-- The first demanded tokens are given back. -/
noncomputable def gvA : List Tok → Nat → List Tok
  | [], _ => []
  | t :: r, 0 => t :: r
  | t :: r, j + 1 => if t.due = true then (if t.want = 0 then gvA r j else bckT t :: gvA r j) else t :: gvA r (j + 1)
noncomputable def gvL (j : Nat) (l : List Tok) : List Tok := gvA l j
theorem gvL_z (l : List Tok) : gvL 0 l = l := by cases l <;> rfl
theorem gvL_c (j : Nat) (t : Tok) (r : List Tok) : gvL (j + 1) (t :: r) = if t.due = true then (if t.want = 0 then gvL j r else bckT t :: gvL j r) else t :: gvL (j + 1) r := by
  unfold gvL
  rw [gvA]
theorem gvL_nil (j : Nat) : gvL j [] = [] := rfl
theorem gvL_no {j : Nat} {t : Tok} {r : List Tok} (h : t.due = false) : gvL j (t :: r) = t :: gvL j r := by
  cases j with
  | zero => rw [gvL_z, gvL_z]
  | succ j => rw [gvL_c]; simp [h]
theorem gvL_ids : ∀ (l : List Tok) (j : Nat), ((gvL j l).map (·.id)).Sublist (l.map (·.id))
  | [], j => by rw [gvL_nil]; exact List.Sublist.refl _
  | t :: r, 0 => by rw [gvL_z]; exact List.Sublist.refl _
  | t :: r, j + 1 => by
    rw [gvL_c]
    split
    · split
      · exact (gvL_ids r j).cons _
      · exact (gvL_ids r j).cons_cons _
    · exact (gvL_ids r (j + 1)).cons_cons _
theorem Srt_iff (l : List Tok) : Srt l ↔ (l.map (·.id)).Pairwise (· < ·) := by
  unfold Srt
  rw [List.pairwise_map]
theorem gvL_srt {l : List Tok} (h : Srt l) (j : Nat) : Srt (gvL j l) := by
  rw [Srt_iff] at h ⊢
  exact h.sublist (gvL_ids l j)
theorem gvL_len (l : List Tok) (j : Nat) : (gvL j l).length ≤ l.length := by
  have := (gvL_ids l j).length_le
  simpa using this
theorem bckT_gone (t : Tok) : (bckT t).gone = (t.want == 0) := by simp [bckT, Tok.gone]
theorem gvL_step : ∀ {l : List Tok} {j : Nat} {t : Tok} (_ : Srt l) (_ : (dues l)[j]? = some t), fnd t.id (gvL j l) = some t ∧ ∀ g, putL (bckT t) g (gvL j l) = if g = (t.want == 0) then gvL (j + 1) l else putL (bckT t) g (gvL j l)
  | [], j, t, _, h => by simp [dues] at h
  | x :: r, j, t, hs, h => by
    have hr := (List.pairwise_cons.1 hs).2
    have hlt : ∀ y ∈ r, x.id < y.id := (List.pairwise_cons.1 hs).1
    cases hd : x.due with
    | false =>
      have h' : (dues r)[j]? = some t := by simpa [dues, hd] using h
      have hm : t ∈ r := (List.mem_filter.1 (List.mem_of_getElem? h')).1
      obtain ⟨h1, h2⟩ := gvL_step hr h'
      have hx := hlt t hm
      rw [gvL_no hd]
      refine ⟨by rw [fnd, if_neg (by omega)]; exact h1, fun g => ?_⟩
      split
      · rename_i hg
        have h2 := h2 g
        rw [if_pos hg] at h2
        rw [putL, if_neg (by simp only [bckT]; omega), if_neg (by simp only [bckT]; omega), show (g || decide ((bckT t).id ≤ x.id)) = g by rw [decide_eq_false (by simp only [bckT]; omega), Bool.or_false], h2, gvL_no hd]
        rfl
      · rfl
    | true =>
      cases j with
      | zero =>
        have : x = t := by simpa [dues, hd] using h
        subst this
        refine ⟨by rw [gvL_z, fnd, if_pos rfl], fun g => ?_⟩
        split
        · rename_i hg
          rw [gvL_z, gvL_c, gvL_z, putL, show (g || decide ((bckT x).id ≤ x.id)) = true by simp [bckT], putL_gt (by simpa [bckT] using hlt)]
          rw [if_pos hd, if_pos (show x.id = (bckT x).id from rfl)]
          by_cases hw : x.want = 0
          · rw [if_pos hw, if_neg (by simp [hg, hw])]
            rfl
          · rw [if_neg hw, if_pos ⟨by simp [hg, hw], by simp [bckT]⟩]
            rfl
        · rfl
      | succ j =>
        have h' : (dues r)[j]? = some t := by simpa [dues, hd] using h
        have hm : t ∈ r := (List.mem_filter.1 (List.mem_of_getElem? h')).1
        obtain ⟨h1, h2⟩ := gvL_step hr h'
        have hx := hlt t hm
        have e1 : gvL (j + 1) (x :: r) = if x.want = 0 then gvL j r else bckT x :: gvL j r := by rw [gvL_c, if_pos hd]
        have e2 : gvL (j + 1 + 1) (x :: r) = if x.want = 0 then gvL (j + 1) r else bckT x :: gvL (j + 1) r := by rw [gvL_c, if_pos hd]
        rw [e1, e2]
        by_cases hw : x.want = 0
        · rw [if_pos hw, if_pos hw]
          exact ⟨h1, h2⟩
        · rw [if_neg hw, if_neg hw]
          refine ⟨by rw [fnd, if_neg (by simp only [bckT]; omega)]; exact h1, fun g => ?_⟩
          split
          · rename_i hg
            have h2 := h2 g
            rw [if_pos hg] at h2
            rw [putL, if_neg (by simp only [bckT]; omega), if_neg (by simp only [bckT]; omega), show (g || decide ((bckT t).id ≤ (bckT x).id)) = g by rw [decide_eq_false (by simp only [bckT]; omega), Bool.or_false], h2]
            rfl
          · rfl
theorem gvL_put {l : List Tok} {j : Nat} {t : Tok} (hs : Srt l) (h : (dues l)[j]? = some t) : put (bckT t) (gvL j l) = gvL (j + 1) l := by
  have := (gvL_step hs h).2 (t.want == 0)
  rw [if_pos rfl] at this
  rw [put, bckT_gone, this]
theorem gvL_fnd {l : List Tok} {j : Nat} {t : Tok} (hs : Srt l) (h : (dues l)[j]? = some t) : fnd t.id (gvL j l) = some t := (gvL_step hs h).1
def unpinT (t : Tok) : Tok := { t with pin := false }
/-- All tokens are made not pinned, the demanded ones are given back. -/
noncomputable def unpL : List Tok → List Tok
  | [] => []
  | t :: r => if t.due = true then (if t.want = 0 then unpL r else bckT t :: unpL r) else unpinT t :: unpL r
theorem gvL_end : ∀ l : List Tok, (gvL (dues l).length l).map unpinT = unpL l
  | [] => by simp [gvL_nil, unpL]
  | t :: r => by
    have ih := gvL_end r
    cases hd : t.due with
    | false =>
      rw [show dues (t :: r) = dues r by simp [dues, hd], gvL_no hd, List.map_cons, ih]
      simp [unpL, hd]
    | true =>
      rw [show (dues (t :: r)).length = (dues r).length + 1 by simp [dues, hd], gvL_c, if_pos hd, unpL, if_pos hd]
      split
      · exact ih
      · rw [List.map_cons, ih]; rfl
noncomputable def unpM (nd : Int) (l : List Tok) (hs : List Int) : List Msg := List.zipWith (fun t h => bckM nd t h) (dues l) hs
def badH (l : List Tok) (hs : List Int) : Bool := (dues l).length != hs.length || decide (0 ≤ idxN 0 hs)
noncomputable def unp (d : Tks) (hs : List Int) : Int × List Tok × List Msg × Int :=
  if valid d.node d.toks = false then (0, [], [], 1) else if badH d.toks hs = true then (0, [], [], 2) else (d.node, unpL d.toks, unpM d.node d.toks hs, 0)
theorem AVil {n : Nat} {a b : {l : List Int // l.length ≤ 9000}} (h : AV.list n (a.1.map iC) = AV.list n (b.1.map iC)) : a = b := Subtype.ext (map_inj' (fun x y h => by
  simp only [iC, List.cons.injEq, AV.int.injEq, true_and, and_true] at h
  exact h) (AVl h))
noncomputable def unpsR (d : Tks) (hs : {l : List Int // l.length ≤ 9000}) : AV := rU (unp d hs.1).1 (unp d hs.1).2.1 (unp d hs.1).2.2.1 (unp d hs.1).2.2.2
noncomputable def unpsS : SpecFn := mkS (fun p : Tks × {l : List Int // l.length ≤ 9000} => [p.1.v, .list 1 (p.2.1.map iC)]) fun p => (unpsR p.1 p.2, [])
theorem unps_eq (dn : Int) (dl : List Tok) (dh : dl.length ≤ 9000) (hs : List Int) (hsh : hs.length ≤ 9000) : unpsS [.agg [.int .i64 dn, .list 41 (dl.map Tok.c)], .list 1 (hs.map iC)] [] = some (unpsR ((⟨dn, dl, dh⟩ : Tks)) ((⟨hs, hsh⟩ : {l : List Int // l.length ≤ 9000})), []) :=
  mkS_eq (enc := fun p : Tks × {l : List Int // l.length ≤ 9000} => [p.1.v, .list 1 (p.2.1.map iC)]) (res := fun p => (unpsR p.1 p.2, [])) (fun x y h => by
    obtain ⟨a0, a1⟩ := x
    obtain ⟨b0, b1⟩ := y
    obtain ⟨h0, h⟩ := List.cons.inj h
    obtain ⟨h1, h⟩ := List.cons.inj h
    have e0 := Tks.v_inj h0
    subst e0
    have e1 := AVil h1
    subst e1
    rfl) ((⟨dn, dl, dh⟩ : Tks), (⟨hs, hsh⟩ : {l : List Int // l.length ≤ 9000}))
end Go.Abs.Na
namespace Go.Abs.Na
open Go Go.Proofs Go.Abs
set_option maxRecDepth 100000
set_option maxHeartbeats 4000000
set_option linter.unusedSimpArgs false
set_option linter.unusedVariables false
theorem putL_mid {t x : Tok} : ∀ (A D : List Tok) (g : Bool), (∀ y ∈ A, y.id < t.id) → x.id = t.id → (∀ y ∈ D, t.id < y.id) → putL t g (A ++ x :: D) = A ++ ((if g = true then [] else [t]) ++ D)
  | [], D, g, _, hx, hD => by
    rw [List.nil_append, putL, if_pos hx, show (g || decide (t.id ≤ x.id)) = true by simp; right; omega, putL_gt hD]
    cases g with
    | true => rfl
    | false => rw [if_pos ⟨rfl, by omega⟩]; rfl
  | y :: A, D, g, hA, hx, hD => by
    have hy := hA y (by simp)
    rw [List.cons_append, putL, if_neg (by omega), if_neg (by omega), show (g || decide (t.id ≤ y.id)) = g by rw [decide_eq_false (by omega), Bool.or_false], putL_mid A D g (fun z hz => hA z (by simp [hz])) hx hD]
    rfl
theorem unpL_app : ∀ A B : List Tok, unpL (A ++ B) = unpL A ++ unpL B
  | [], B => rfl
  | t :: A, B => by
    rw [List.cons_append, unpL, unpL, unpL_app A B]
    split
    · split <;> rfl
    · rfl
theorem unpL_ids : ∀ (l : List Tok) (y : Tok), y ∈ unpL l → ∃ x ∈ l, x.id = y.id
  | [], y, h => by simp [unpL] at h
  | t :: r, y, h => by
    rw [unpL] at h
    split at h
    · split at h
      · obtain ⟨x, h1, h2⟩ := unpL_ids r y h
        exact ⟨x, by simp [h1], h2⟩
      · rcases List.mem_cons.1 h with h | h
        · exact ⟨t, by simp, by rw [h]; simp only [bckT]⟩
        · obtain ⟨x, h1, h2⟩ := unpL_ids r y h
          exact ⟨x, by simp [h1], h2⟩
    · rcases List.mem_cons.1 h with h | h
      · exact ⟨t, by simp, by rw [h]; simp only [unpinT]⟩
      · obtain ⟨x, h1, h2⟩ := unpL_ids r y h
        exact ⟨x, by simp [h1], h2⟩
theorem unpL_len : ∀ l : List Tok, (unpL l).length ≤ l.length
  | [] => Nat.le_refl _
  | t :: r => by
    have := unpL_len r
    rw [unpL]
    split
    · split
      · simp; omega
      · simp; omega
    · simp; omega
/-- A step of the reference. -/
theorem unp_mid {l : List Tok} {k : Nat} {x t : Tok} (hs : Srt l) (hx : l[k]? = some x) (hi : t.id = x.id) (g : Bool) : putL t g (unpL (l.take k) ++ l.drop k) = unpL (l.take k) ++ ((if g = true then [] else [t]) ++ l.drop (k + 1)) := by
  obtain ⟨hk, he⟩ := List.getElem?_eq_some_iff.1 hx
  rw [List.drop_eq_getElem_cons hk, he]
  refine putL_mid _ _ _ (fun y hy => ?_) hi.symm (fun y hy => ?_)
  · obtain ⟨z, hz, e⟩ := unpL_ids _ _ hy
    obtain ⟨j, hj⟩ := List.getElem?_of_mem hz
    rw [List.getElem?_take] at hj
    split at hj
    · rename_i hjk
      have := hs.get hj hx hjk
      omega
    · cases hj
  · obtain ⟨j, hj⟩ := List.getElem?_of_mem hy
    rw [List.getElem?_drop] at hj
    have := hs.get hx hj (by omega)
    omega
theorem take_app {l : List Tok} {k : Nat} {x : Tok} (hx : l[k]? = some x) : l.take (k + 1) = l.take k ++ [x] := by
  rw [List.take_add_one, hx]; rfl
theorem unp_due {l : List Tok} {k : Nat} {x : Tok} (hs : Srt l) (hx : l[k]? = some x) (hd : x.due = true) : put (bckT x) (unpL (l.take k) ++ l.drop k) = unpL (l.take (k + 1)) ++ l.drop (k + 1) := by
  rw [put, unp_mid (t := bckT x) hs hx (by simp only [bckT]), bckT_gone, take_app hx, unpL_app, List.append_assoc]
  congr 1
  rw [unpL, if_pos hd]
  by_cases hw : x.want = 0
  · simp [hw, unpL]
  · simp [hw, unpL]
theorem unp_not {l : List Tok} {k : Nat} {x : Tok} (hs : Srt l) (hx : l[k]? = some x) (hd : x.due = false) (hg : (unpinT x).gone = false) : put (unpinT x) (unpL (l.take k) ++ l.drop k) = unpL (l.take (k + 1)) ++ l.drop (k + 1) := by
  rw [put, unp_mid (t := unpinT x) hs hx (by simp only [unpinT]), hg, take_app hx, unpL_app, List.append_assoc]
  congr 1
  simp [unpL, hd]
theorem unpM_due {nd : Int} {l : List Tok} {hs : List Int} {k : Nat} {x : Tok} {h : Int} (hx : l[k]? = some x) (hd : x.due = true) (hh : hs[(dues (l.take k)).length]? = some h) : unpM nd (l.take (k + 1)) hs = unpM nd (l.take k) hs ++ [bckM nd x h] := by
  unfold unpM
  have e : dues (l.take (k + 1)) = dues (l.take k) ++ [x] := by rw [take_app hx]; simp [dues, hd]
  rw [e]
  clear e
  generalize dues (l.take k) = A at *
  induction A generalizing hs with
  | nil =>
    cases hs with
    | nil => simp at hh
    | cons y q => simp at hh; simp [hh]
  | cons a A ih =>
    cases hs with
    | nil => simp at hh
    | cons y q =>
      simp only [List.cons_append, List.zipWith_cons_cons]
      rw [ih (by simpa using hh)]
theorem unpM_not {nd : Int} {l : List Tok} {hs : List Int} {k : Nat} {x : Tok} (hx : l[k]? = some x) (hd : x.due = false) : unpM nd (l.take (k + 1)) hs = unpM nd (l.take k) hs := by
  unfold unpM
  rw [take_app hx]
  simp [dues, hd]
theorem unpM_len {nd : Int} {l : List Tok} {hs : List Int} (h : (dues l).length ≤ hs.length) : (unpM nd l hs).length = (dues l).length := by
  unfold unpM
  rw [List.length_zipWith]
  omega
theorem dues_take_lt {l : List Tok} {k : Nat} {x : Tok} (hx : l[k]? = some x) (hd : x.due = true) : (dues (l.take k)).length < (dues l).length := by
  have e : l = l.take k ++ x :: l.drop (k + 1) := by
    obtain ⟨hk, he⟩ := List.getElem?_eq_some_iff.1 hx
    rw [← he, ← List.drop_eq_getElem_cons hk, List.take_append_drop]
  have e2 : dues l = dues (l.take k) ++ x :: dues (l.drop (k + 1)) := by
    have := congrArg dues e
    rw [this]
    simp [dues, hd]
  rw [e2]
  simp
theorem dues_take_le (l : List Tok) (k : Nat) : (dues (l.take k)).length ≤ k := by
  refine Nat.le_trans (List.length_filter_le _ _) ?_
  rw [List.length_take]
  omega
end Go.Abs.Na
namespace Go.Abs.Na
open Go Go.Proofs Go.Abs
set_option maxRecDepth 100000
set_option maxHeartbeats 4000000
set_option linter.unusedSimpArgs false
set_option linter.unusedVariables false
attribute [local simp] instA
attribute [-simp] mkv
attribute [local simp] mkv_hd hdA_cons hdA_ob hdA_ob'
/-- A list of messages that is added to. -/
def msB (g : Nat) (l : List Msg) : ABlk := { gen := g, kind := 2, elem := 50, size := 45, inl := true, rows := l.map Msg.v }
def IsM (id : Nat) (h : NL ABlk) (P : AV) (l : List Msg) : Prop := (P = .nils ∧ l = []) ∨ ∃ g, P = .sl id g 0 l.length ∧ lk h id = some (msB g l)
def tkC (nd : Int) (g : Nat) (l : List Tok) : ABlk := { gen := g, kind := 2, elem := 69, size := 2, inl := false, rows := [[.int .i64 nd, .list 41 (l.map Tok.c)]] }
theorem take_msg (l : List Msg) : (l.map Msg.v).take l.length = l.map Msg.v := List.take_of_length_le (by simp)
theorem unps_nrm (p : Tks × {l : List Int // l.length ≤ 9000}) : nrmR Try.prog [69, 87, 51] (unpsR p.1 p.2) = unpsR p.1 p.2 := rU_nrm _ _ _ _
noncomputable def unr_specs : NL Spec := [(78, ⟨1, vaS⟩), (95, ⟨1, boS okN⟩), (96, ⟨1, bckS⟩), (81, ⟨1, putS⟩)]
theorem unr_specs_ok : ∀ p ∈ unr_specs, FnC Try.prog p.1 p.2.fn := by
  simp only [unr_specs, List.mem_cons, List.not_mem_nil, or_false]
  rintro p (rfl | rfl | rfl | rfl)
  · exact var_ok
  · exact no2_ok
  · exact bckr_ok
  · exact put_ok
attribute [local simp] unr_specs
def badK (n : Nat) (hs : List Int) : Bool := n != hs.length || decide (0 ≤ idxN 0 hs)
theorem idxN_bad : ∀ (hs : List Int) (k : Nat), decide (0 ≤ idxN k hs) = hs.any fun h => !okN h
  | [], k => by simp [idxN]
  | h :: r, k => by
    rw [idxN, List.any_cons]
    cases ho : okN h with
    | false => simp
    | true => rw [if_neg (by simp)]; simp [idxN_bad r (k + 1)]
def unfl (l : List Tok) (hs : List Int) (k : Nat) : Bool := (((dues l).length : Int) != (hs.length : Int)) || (hs.take k).any fun h => !okN h
theorem unfl_end (l : List Tok) (hs : List Int) : unfl l hs hs.length = badH l hs := by
  rw [unfl, badH, idxN_bad, List.take_length]
  congr 1
  by_cases e : (dues l).length = hs.length
  · simp [e]
  · rw [bne_iff_ne.2 e, bne_iff_ne.2 (by omega)]
theorem unfl_zero (l : List Tok) (hs : List Int) : unfl l hs 0 = (((dues l).length : Int) != (hs.length : Int)) := by simp [unfl]
theorem unfl_succ {l : List Tok} {hs : List Int} {k : Nat} {m : Int} (h : hs[k]? = some m) : unfl l hs (k + 1) = (unfl l hs k || !okN m) := by
  rw [unfl, unfl, List.take_add_one, h, List.any_append, Bool.or_assoc]
  simp
theorem unr_ok : FnC Try.prog 35 unpsS := by
  refine FnC.walkN 35 (fn := Try.f35) [69, 87, 51] Try.func35 rfl (by kernel_rfl) (fun p => ?_) (fun p => ⟨_, unps_nrm p⟩)
  obtain ⟨⟨nd, l, hl⟩, ⟨hs, hhs⟩⟩ := p
  have cv := vaS_eq ⟨nd, l, hl⟩
  simp only [Tks.v] at cv
  change W _ (RetNf _ _ _ (unpsR ⟨nd, l, hl⟩ ⟨hs, hhs⟩) []) _ _ ⟨87, [(0, .agg [.int .i64 nd, .list 41 (l.map Tok.c)]), (1, .list 1 (hs.map iC))], []⟩
  unfold unpsR
  generalize hR : unp ⟨nd, l, hl⟩ hs = R
  unfold unp at hR
  dsimp only at hR
  have cap : l.length ≤ 9223372036854775807 := by omega
  have caph : hs.length ≤ 9223372036854775807 := by omega
  cases hv : valid nd l with
  | false =>
    rw [if_pos hv] at hR
    subst hR
    rw [hv] at cv
    repeat' (first | refine ZV ?_ | refine ZB tm unr_specs_ok ?_ | refine ZH (fun hb => ?_) (fun hb => ?_) | refine ZJ (by conv => lhs; simp [cv]) ?_ | refine ZA (fun hb => ?_) (fun hb => ?_))
    refine RetNf.dataE rfl (by conv => lhs; simp) (by conv => lhs; simp) (by first | rfl | simp [inlT, inlV]) (rU_nrm0 1)
  | true =>
    rw [if_neg (by simp [hv])] at hR
    rw [hv] at cv
    have srt := valid_srt hv
    repeat' (first | refine ZV ?_ | refine ZB tm unr_specs_ok ?_ | refine ZH (fun hb => ?_) (fun hb => ?_) | refine ZJ (by conv => lhs; simp [cv, cap]) ?_ | refine ZA (fun hb => ?_) (fun hb => ?_))
    let B48 : ABlk := { gen := 1, kind := 2, elem := 69, size := 2, inl := false, rows := [[.int .i64 nd, .list 41 (l.map Tok.c)]] }
    let B80 : ABlk := { gen := 1, kind := 2, elem := 69, size := 2, inl := false, rows := [[.int .i64 0, .nils]] }
    refine W.loop rfl (ι := { q : Nat × NL ABlk // q.1 ≤ l.length ∧ lk q.2 48 = some B48 ∧ lk q.2 80 = some B80 })
      (fun q => ⟨87, [(1, .list 1 (hs.map iC)), (2, .ptr 48 1 0 0), (4, .ptr 80 1 0 0), (7, .int .i64 ((dues (l.take q.1.1)).length : Nat)), (24, .list 41 (l.map Tok.c)), (25, .int .i64 l.length), (26, .int .i64 (q.1.1 : Nat))], q.1.2⟩) (fun q => l.length - q.1.1)
      ⟨(0, _), by simp, rfl, rfl⟩ (AS.le_of rfl ⟨rfl, rfl, rfl, by simp [dues], rfl, rfl, rfl, trivial⟩ (fun _ => rfl)) ?_
    rintro ⟨⟨k, h⟩, hk, h1, h2⟩
    dsimp only at hk h1 h2 ⊢
    by_cases hk2 : k = l.length
    · subst hk2
      rw [List.take_length]
      repeat' (first | refine ZV ?_ | refine ZB tm unr_specs_ok ?_ | refine ZH (fun hb => ?_) (fun hb => ?_) | refine ZJ (by conv => lhs; simp [caph]) ?_ | refine ZA (fun hb => ?_) (fun hb => ?_))
      have hf0 := unfl_zero l hs
      refine W.loop rfl (ι := { q : Nat × NL ABlk // q.1 ≤ hs.length ∧ lk q.2 48 = some B48 ∧ lk q.2 80 = some B80 })
        (fun q => ⟨87, [(1, .list 1 (hs.map iC)), (2, .ptr 48 1 0 0), (4, .ptr 80 1 0 0), (10, .bool (unfl l hs q.1.1)), (39, .list 1 (hs.map iC)), (40, .int .i64 hs.length), (41, .int .i64 (q.1.1 : Nat))], q.1.2⟩) (fun q => hs.length - q.1.1)
        ⟨(0, _), by simp, h1, h2⟩ (AS.le_of rfl ⟨rfl, rfl, rfl, by rw [hf0]; rfl, rfl, rfl, rfl, trivial⟩ (fun _ => rfl)) ?_
      clear h1 h2 hk h
      rintro ⟨⟨k, h⟩, hk, h1, h2⟩
      dsimp only at hk h1 h2 ⊢
      by_cases hk2 : k = hs.length
      · subst hk2
        rw [unfl_end]
        cases hbad : badH l hs with
        | true =>
          rw [if_pos hbad] at hR
          subst hR
          repeat' (first | refine ZV ?_ | refine ZB tm unr_specs_ok ?_ | refine ZH (fun hb => ?_) (fun hb => ?_) | refine ZJ (by conv => lhs; simp [h2, B80]) ?_ | refine ZA (fun hb => ?_) (fun hb => ?_))
          refine RetNf.dataE rfl (by conv => lhs; simp) (by conv => lhs; simp) (by first | rfl | simp [inlT, inlV]) (rU_nrm0 2)
        | false =>
          rw [if_neg (by simp [hbad])] at hR
          repeat' (first | refine ZV ?_ | refine ZB tm unr_specs_ok ?_ | refine ZH (fun hb => ?_) (fun hb => ?_) | refine ZJ (by conv => lhs; simp [h1, h2, cap, B48, B80]) ?_ | refine ZA (fun hb => ?_) (fun hb => ?_))
          have hbd : (dues l).length = hs.length := by
            simp only [badH, Bool.or_eq_false_iff] at hbad
            simpa using hbad.1
          refine W.loop rfl (ι := { q : Nat × NL ABlk × AV × Nat // q.1 ≤ l.length ∧ lk q.2.1 80 = some B80 ∧ lk q.2.1 240 = some (tkC nd q.2.2.2 (unpL (l.take q.1) ++ l.drop q.1)) ∧ IsM 1280 q.2.1 q.2.2.1 (unpM nd (l.take q.1) hs) })
            (fun q => ⟨87, [(1, .list 1 (hs.map iC)), (4, .ptr 80 1 0 0), (13, q.1.2.2.1), (14, .ptr 240 q.1.2.2.2 0 0), (56, .list 41 (l.map Tok.c)), (57, .int .i64 l.length), (58, .int .i64 (q.1.1 : Nat))], q.1.2.1⟩) (fun q => l.length - q.1.1)
            ⟨(0, _, .nils, _), by simp, by simp [lk_st, h2], by simp [lk_st, tkC, unpL], .inl ⟨rfl, by simp [unpM, dues]⟩⟩ (AS.le_of rfl ⟨rfl, rfl, rfl, rfl, rfl, rfl, rfl, trivial⟩ (fun _ => rfl)) ?_
          clear h1 h2 hk h
          rintro ⟨⟨k, h, P, g⟩, hk, h2, h3, hP⟩
          dsimp only at hk h2 h3 hP ⊢
          by_cases hk2 : k = l.length
          · subst hk2
            rw [List.take_length, List.drop_length, List.append_nil] at h3
            rw [List.take_length] at hP
            subst hR
            generalize unpL l = L at *
            generalize unpM nd l hs = ms at *
            rcases hP with ⟨rfl, rfl⟩ | ⟨gm, rfl, hm⟩
            · repeat' (first | refine ZV ?_ | refine ZB tm unr_specs_ok ?_ | refine ZH (fun hb => ?_) (fun hb => ?_) | refine ZJ (by conv => lhs; simp [h2, h3, B80, tkC]) ?_ | refine ZA (fun hb => ?_) (fun hb => ?_))
              refine RetNf.dataE rfl (by conv => lhs; simp) (by conv => lhs; simp) (by first | rfl | simp [inlT, inlV]) ?_
              exact rU_nrmN nd L 0
            · repeat' (first | refine ZV ?_ | refine ZB tm unr_specs_ok ?_ | refine ZH (fun hb => ?_) (fun hb => ?_) | refine ZJ (by conv => lhs; simp [h2, h3, B80, tkC, hm, msB]) ?_ | refine ZA (fun hb => ?_) (fun hb => ?_))
              refine RetNf.dataE rfl (by conv => lhs; simp) (by conv => lhs; simp [hm, msB, take_msg]) (by first | rfl | simp [inlT, inlV]) ?_
              exact rU_nrm nd L ms 0
          · have hlt : k < l.length := by omega
            obtain ⟨x, hr⟩ := get_lt hlt
            have hm : (l.map Tok.c)[k]? = some x.c := by rw [List.getElem?_map, hr]; rfl
            have q1 : (k : Int) < l.length := by omega
            have q2 : ¬ l.length ≤ k := by omega
            have hw : IntKind.i64.wrap ((k : Int) + 1) = ((k + 1 : Nat) : Int) := w64 (by omega) (by omega)
            have dl := dues_take_le l k
            have cl : (unpL (l.take k) ++ l.drop k).length ≤ 9000 := by
              have := unpL_len (l.take k)
              rw [List.length_take] at this
              rw [List.length_append, List.length_drop]
              omega
            have ml : (unpM nd (l.take k) hs).length = (dues (l.take k)).length := by
              refine unpM_len ?_
              by_cases hd : (dues (l.take k)).length ≤ hs.length
              · exact hd
              · have : (dues (l.take k)).length ≤ (dues l).length := by
                  refine List.Sublist.length_le ?_
                  exact (List.take_sublist k l).filter _
                omega
            cases hd : x.due with
            | true =>
              have hdl := dues_take_lt hr hd
              obtain ⟨m, hh⟩ := get_lt (l := hs) (i := (dues (l.take k)).length) (by omega)
              have hhm : (hs.map iC)[(dues (l.take k)).length]? = some [.int .i64 m] := by rw [List.getElem?_map, hh]; rfl
              have cb := bckS_eq ⟨nd, _, cl⟩ x m
              have s1 := unp_due srt hr hd
              have s2 := unpM_due (nd := nd) hr hd hh
              simp only [Tks.v] at cb
              rw [s1] at cb
              generalize unpL (l.take k) ++ l.drop k = C at *
              generalize hC1 : unpL (l.take (k + 1)) ++ l.drop (k + 1) = C1 at *
              generalize hM : bckM nd x m = M at *
              generalize unpM nd (l.take k) hs = ms at *
              generalize (dues (l.take k)).length = n at *
              obtain ⟨a1, a2, o, a3, a4, a5⟩ := x
              obtain ⟨c1, c2, c3, c4, c5, p, c6, c7, c8, c9⟩ := M
              dsimp only at hd
              subst hd
              simp only [Tok.c, rM, Msg.v] at hm cb
              have hln : n < hs.length := by omega
              have y0 : n ≤ 9000 := by omega
              have q5 : (n : Int) < hs.length := by omega
              have y1 : n ≤ maxLen := by simp only [maxLen]; omega
              have y2 : (n + 1) * 536 ≤ 140737488355328 := by omega
              have y4 : n + 1 ≤ maxLen := by simp only [maxLen]; omega
              clear hlt hk2 dl cl hdl y0 hln
              rcases hP with ⟨rfl, rfl⟩ | ⟨gm, rfl, hmm⟩
              · simp only [List.length_nil] at ml
                subst ml
                repeat' (first | refine ZV ?_ | refine ZB tm unr_specs_ok ?_ | refine ZH (fun hb => ?_) (fun hb => ?_) | refine ZJ (by conv => lhs; simp [q1, q2, hm, hw, h3, tkC, cb, hhm, m1, q5]) ?_ | refine ZA (fun hb => ?_) (fun hb => ?_))
                exact ⟨⟨(k + 1, _, .sl 1280 _ 0 1, g), by dsimp only; omega, by simp [lk_st, h2], by simp [lk_st, tkC, hC1], .inr ⟨_, by dsimp only; rw [s2]; rfl, by dsimp only; rw [s2]; simp [lk_st, msB]⟩⟩, by dsimp only; omega, AS.le_of rfl ⟨rfl, rfl, rfl, rfl, rfl, rfl, rfl, trivial⟩ (fun _ => rfl)⟩
              · subst ml
                repeat' (first | refine ZV ?_ | refine ZB tm unr_specs_ok ?_ | refine ZH (fun hb => ?_) (fun hb => ?_) | refine ZJ (by conv => lhs; simp [q1, q2, hm, hw, h3, tkC, cb, hhm, m1, q5, y1, y2, y4, hmm, msB]) ?_ | refine ZA (fun hb => ?_) (fun hb => ?_))
                exact ⟨⟨(k + 1, _, .sl 1280 (gm + 1) 0 (ms.length + 1), g), by dsimp only; omega, by simp [lk_st, h2], by simp [lk_st, tkC, hC1], .inr ⟨gm + 1, by dsimp only; rw [s2]; simp, by dsimp only; rw [s2]; simp [lk_st, msB, first_all]⟩⟩, by dsimp only; omega, AS.le_of rfl ⟨rfl, rfl, rfl, rfl, rfl, rfl, rfl, trivial⟩ (fun _ => rfl)⟩
            | false =>
              have hg : (unpinT x).gone = false := by
                have := valid_held hv hr
                simp only [Tok.gone, unpinT]
                rcases this with h | h <;> simp [h]
              have cp := putS_eq ⟨nd, _, cl⟩ (unpinT x)
              have s1 := unp_not srt hr hd hg
              have s2 := unpM_not (nd := nd) (hs := hs) hr hd
              simp only [Tks.v] at cp
              rw [s1] at cp
              generalize unpL (l.take k) ++ l.drop k = C at *
              generalize hC1 : unpL (l.take (k + 1)) ++ l.drop (k + 1) = C1 at *
              obtain ⟨a1, a2, o, a3, a4, a5⟩ := x
              dsimp only at hd
              subst hd
              simp only [Tok.c, unpinT] at hm cp
              clear hlt hk2 dl cl ml
              repeat' (first | refine ZV ?_ | refine ZB tm unr_specs_ok ?_ | refine ZH (fun hb => ?_) (fun hb => ?_) | refine ZJ (by conv => lhs; simp [q1, q2, hm, hw, h3, tkC, cp]) ?_ | refine ZA (fun hb => ?_) (fun hb => ?_))
              exact ⟨⟨(k + 1, _, P, g), by dsimp only; omega, by simp [lk_st, h2], by simp [lk_st, tkC, hC1], by
                rcases hP with ⟨rfl, e⟩ | ⟨gm, rfl, e⟩
                · exact .inl ⟨rfl, by dsimp only; rw [s2]; exact e⟩
                · exact .inr ⟨gm, by dsimp only; rw [s2], by dsimp only; rw [s2]; simp [lk_st, e]⟩⟩, by dsimp only; omega, AS.le_of rfl ⟨rfl, rfl, rfl, rfl, rfl, rfl, rfl, trivial⟩ (fun _ => rfl)⟩
      · have hlt : k < hs.length := by omega
        obtain ⟨m, hr⟩ := get_lt hlt
        have hm : (hs.map iC)[k]? = some [.int .i64 m] := by rw [List.getElem?_map, hr]; rfl
        have q1 : (k : Int) < hs.length := by omega
        have q2 : ¬ hs.length ≤ k := by omega
        have hw : IntKind.i64.wrap ((k : Int) + 1) = ((k + 1 : Nat) : Int) := w64 (by omega) (by omega)
        have e3 := unfl_succ (l := l) hr
        have co := boS_eq okN m
        generalize unfl l hs k = b at *
        clear hlt hk2
        repeat' (first | refine ZV ?_ | refine ZB tm unr_specs_ok ?_ | refine ZH (fun hb => ?_) (fun hb => ?_) | refine ZJ (by conv => lhs; simp [q1, q2, hm, hw, co]) ?_ | refine ZA (fun hb => ?_) (fun hb => ?_))
        · exact ⟨⟨(k + 1, _), by dsimp only; omega, by simp [lk_st, h1], by simp [lk_st, h2]⟩, by dsimp only; omega, AS.le_of rfl ⟨rfl, rfl, rfl, by show lk _ 10 = some (AV.bool (unfl l hs (k + 1))); rw [e3, hb]; rfl, rfl, rfl, rfl, trivial⟩ (fun _ => rfl)⟩
        · exact ⟨⟨(k + 1, _), by dsimp only; omega, by simp [lk_st, h1], by simp [lk_st, h2]⟩, by dsimp only; omega, AS.le_of rfl ⟨rfl, rfl, rfl, by show lk _ 10 = some (AV.bool (unfl l hs (k + 1))); rw [e3, hb]; rfl, rfl, rfl, rfl, trivial⟩ (fun _ => rfl)⟩
    · have hlt : k < l.length := by omega
      obtain ⟨x, hr⟩ := get_lt hlt
      have hm : (l.map Tok.c)[k]? = some x.c := by rw [List.getElem?_map, hr]; rfl
      have q1 : (k : Int) < l.length := by omega
      have q2 : ¬ l.length ≤ k := by omega
      have hw : IntKind.i64.wrap ((k : Int) + 1) = ((k + 1 : Nat) : Int) := w64 (by omega) (by omega)
      have dl := dues_take_le l k
      have hw2 : IntKind.i64.wrap (((dues (l.take k)).length : Int) + 1) = (((dues (l.take k)).length + 1 : Nat) : Int) := w64 (by omega) (by omega)
      have e0 : dues (l.take (k + 1)) = dues (l.take k) ++ dues [x] := by rw [take_app hr]; simp [dues]
      have e1 : (dues (l.take (k + 1))).length = (dues (l.take k)).length + (dues [x]).length := by rw [e0, List.length_append]
      obtain ⟨a1, a2, o, a3, a4, a5⟩ := x
      simp only [Tok.c] at hm
      clear hlt hk2
      cases a5 with
      | true =>
        have e2 : (dues (l.take (k + 1))).length = (dues (l.take k)).length + 1 := by rw [e1]; simp [dues]
        repeat' (first | refine ZV ?_ | refine ZB tm unr_specs_ok ?_ | refine ZH (fun hb => ?_) (fun hb => ?_) | refine ZJ (by conv => lhs; simp [q1, q2, hm, hw, hw2]) ?_ | refine ZA (fun hb => ?_) (fun hb => ?_))
        exact ⟨⟨(k + 1, _), by dsimp only; omega, by simp [lk_st, h1], by simp [lk_st, h2]⟩, by dsimp only; omega, AS.le_of rfl ⟨rfl, rfl, rfl, by rw [e2]; rfl, rfl, rfl, rfl, trivial⟩ (fun _ => rfl)⟩
      | false =>
        have e2 : (dues (l.take (k + 1))).length = (dues (l.take k)).length := by rw [e1]; simp [dues]
        repeat' (first | refine ZV ?_ | refine ZB tm unr_specs_ok ?_ | refine ZH (fun hb => ?_) (fun hb => ?_) | refine ZJ (by conv => lhs; simp [q1, q2, hm, hw, hw2]) ?_ | refine ZA (fun hb => ?_) (fun hb => ?_))
        exact ⟨⟨(k + 1, _), by dsimp only; omega, by simp [lk_st, h1], by simp [lk_st, h2]⟩, by dsimp only; omega, AS.le_of rfl ⟨rfl, rfl, rfl, by rw [e2]; rfl, rfl, rfl, rfl, trivial⟩ (fun _ => rfl)⟩
end Go.Abs.Na
namespace Go.Abs.Na
open Go Go.Proofs Go.Abs
set_option maxRecDepth 100000
set_option maxHeartbeats 4000000
set_option linter.unusedSimpArgs false
set_option linter.unusedVariables false
attribute [local simp] instA
attribute [-simp] mkv
attribute [local simp] mkv_hd hdA_cons hdA_ob hdA_ob'
noncomputable def ctnR (l : {l : List Int // l.length ≤ 9000}) : AV := .bool (decide (0 ≤ idxN 0 l.1))
noncomputable def ctnS : SpecFn := mkS (fun p : {l : List Int // l.length ≤ 9000} => [.list 1 (p.1.map iC), .fn (.func 90) [] []]) fun p => (ctnR p, [])
theorem ctn_eq (l : List Int) (lh : l.length ≤ 9000) : ctnS [.list 1 (l.map iC), .fn (.func 90) [] []] [] = some (ctnR ((⟨l, lh⟩ : {l : List Int // l.length ≤ 9000})), []) :=
  mkS_eq (enc := fun p : {l : List Int // l.length ≤ 9000} => [.list 1 (p.1.map iC), .fn (.func 90) [] []]) (res := fun p => (ctnR p, [])) (fun x y h => by
    obtain ⟨h0, h⟩ := List.cons.inj h
    obtain ⟨h1, h⟩ := List.cons.inj h
    have e0 := AVil h0
    subst e0
    rfl) ((⟨l, lh⟩ : {l : List Int // l.length ≤ 9000}))
noncomputable def ctn_specs : NL Spec := [(161, ⟨1, xnS⟩)]
theorem ctn_specs_ok : ∀ p ∈ ctn_specs, FnC Try.prog p.1 p.2.fn := by
  simp only [ctn_specs, List.mem_cons, List.not_mem_nil, or_false]
  rintro p rfl
  exact xn_ok
theorem xn_eq (l : List Int) (lh : l.length ≤ 9000) : xnS [.list 1 (l.map iC), .fn (.func 90) [] []] [] = some (.int .i64 (idxN 0 l), []) :=
  mkS_eq (enc := fun d : {l : List Int // l.length ≤ 9000} => [.list 1 (d.1.map iC), .fn (.func 90) [] []]) (res := fun d => (.int .i64 (idxN 0 d.1), [])) (fun x y h => by
    simp only [List.cons.injEq, and_true] at h
    rw [AVil h]) ⟨l, lh⟩
attribute [local simp] ctn_specs
theorem ctn_ok : FnC Try.prog 92 ctnS := by
  refine FnC.walk 92 (fn := Try.f92) Try.func92 rfl (by kernel_rfl) fun p => ?_
  obtain ⟨l, lh⟩ := p
  change W _ (Ret _ _ (ctnR (⟨l, lh⟩ : {l : List Int // l.length ≤ 9000})) []) _ _ ⟨9, [(0, .list 1 (l.map iC)), (1, .fn (.func 90) [] [])], []⟩
  have cf := xn_eq l lh
  repeat' (first | refine ZV ?_ | refine ZB tm ctn_specs_ok ?_ | refine ZH (fun hb => ?_) (fun hb => ?_) | refine ZJ (by conv => lhs; simp [cf]) ?_ | refine ZA (fun hb => ?_) (fun hb => ?_))
  all_goals (first | refine Ret.dataE rfl (by conv => lhs; simp) (by conv => lhs; simp) (by first | rfl | simp [inlT, inlV]) ?_ | refine RetNf.dataE rfl (by conv => lhs; simp) (by conv => lhs; simp) (by first | rfl | simp [inlT, inlV]) ?_)
  all_goals (first | rfl | (simp [ctnR]; done) | (simp_all [ctnR]; done) | (simp_all [ctnR]; omega))
/-- A list of identifiers that is added to. -/
def uC (m : Int) : List AV := [.int .u64 m]
def idB (g : Nat) (l : List Int) : ABlk := { gen := g, kind := 2, elem := 30, size := 1, inl := true, rows := l.map uC }
def IsU (id : Nat) (h : NL ABlk) (P : AV) (l : List Int) : Prop := (P = .nils ∧ l = []) ∨ ∃ g, P = .sl id g 0 l.length ∧ lk h id = some (idB g l)
theorem zip_take {nd : Int} {l : List Tok} {hs : List Int} {j : Nat} {t : Tok} {m : Int} (ht : (dues l)[j]? = some t) (hm : hs[j]? = some m) : (unpM nd l hs).take (j + 1) = (unpM nd l hs).take j ++ [bckM nd t m] := by
  rw [List.take_add_one]
  congr 1
  unfold unpM
  rw [List.getElem?_zipWith, ht, hm]
  rfl
def midL (C : List Tok) (k : Nat) : List Tok := (C.take k).map unpinT ++ C.drop k
theorem midL_len (C : List Tok) (k : Nat) : (midL C k).length = C.length := by simp [midL]; omega
theorem midL_get {C : List Tok} {k : Nat} {x : Tok} (h : C[k]? = some x) : (midL C k)[k]? = some x := by
  obtain ⟨hk, he⟩ := List.getElem?_eq_some_iff.1 h
  rw [midL, List.getElem?_append_right (by simp; omega)]
  simp only [List.length_map, List.length_take, List.getElem?_drop]
  rw [show k + (k - min k C.length) = k by omega, h]
theorem midL_set {C : List Tok} {k : Nat} {x : Tok} (h : C[k]? = some x) : (midL C k).set k (unpinT x) = midL C (k + 1) := by
  obtain ⟨hk, he⟩ := List.getElem?_eq_some_iff.1 h
  have h1 : (List.map unpinT (List.take k C)).length = k := by simp; omega
  have e : C.drop k = x :: C.drop (k + 1) := by rw [List.drop_eq_getElem_cons hk, he]
  rw [midL, midL, List.set_append_right _ _ (by omega), h1, Nat.sub_self, e, List.take_add_one, h]
  simp
noncomputable def unq_specs : NL Spec := [(69, ⟨1, vaS⟩), (92, ⟨1, ctnS⟩), (93, ⟨1, cp2S⟩), (94, ⟨1, gvpS⟩)]
theorem unq_specs_ok : ∀ p ∈ unq_specs, FnC Try.prog p.1 p.2.fn := by
  simp only [unq_specs, List.mem_cons, List.not_mem_nil, or_false]
  rintro p (rfl | rfl | rfl | rfl)
  · exact vap_ok
  · exact ctn_ok
  · exact cp2_ok
  · exact gvp_ok
attribute [local simp] unq_specs
theorem unq_ok : FnC Try.prog 34 unpsS := by
  refine FnC.walkN 34 (fn := Try.f34) [69, 87, 51] Try.func34 rfl (by kernel_rfl) (fun p => ?_) (fun p => ⟨_, unps_nrm p⟩)
  obtain ⟨⟨nd, l, hl⟩, ⟨hs, hhs⟩⟩ := p
  have cv := vaS_eq ⟨nd, l, hl⟩
  have cc := cp2_eq nd l hl
  have cn := ctn_eq hs hhs
  simp only [Tks.v, tkB0] at cv cc
  change W _ (RetNf _ _ _ (unpsR ⟨nd, l, hl⟩ ⟨hs, hhs⟩) []) _ _ ⟨87, [(0, .agg [.int .i64 nd, .list 41 (l.map Tok.c)]), (1, .list 1 (hs.map iC))], []⟩
  unfold unpsR
  generalize hR : unp ⟨nd, l, hl⟩ hs = R
  unfold unp at hR
  dsimp only at hR
  have cap : l.length ≤ 9223372036854775807 := by omega
  have caph : hs.length ≤ 9223372036854775807 := by omega
  cases hv : valid nd l with
  | false =>
    rw [if_pos hv] at hR
    subst hR
    rw [hv] at cv
    repeat' (first | refine ZV ?_ | refine ZB tm unq_specs_ok ?_ | refine ZH (fun hb => ?_) (fun hb => ?_) | refine ZJ (by conv => lhs; simp [cv]) ?_ | refine ZA (fun hb => ?_) (fun hb => ?_))
    refine RetNf.dataE rfl (by conv => lhs; simp) (by conv => lhs; simp) (by first | rfl | simp [inlT, inlV]) (rU_nrm0 1)
  | true =>
    rw [if_neg (by simp [hv])] at hR
    rw [hv] at cv
    have srt := valid_srt hv
    repeat' (first | refine ZV ?_ | refine ZB tm unq_specs_ok ?_ | refine ZH (fun hb => ?_) (fun hb => ?_) | refine ZJ (by conv => lhs; simp [cv, cap]) ?_ | refine ZA (fun hb => ?_) (fun hb => ?_))
    refine W.loop rfl (ι := { q : Nat × NL ABlk × AV // q.1 ≤ l.length ∧ lk q.2.1 48 = some (tkC nd 1 l) ∧ lk q.2.1 80 = some { gen := 1, kind := 2, elem := 69, size := 2, inl := false, rows := [[.int .i64 0, .nils]] } ∧ IsU 576 q.2.1 q.2.2 ((dues (l.take q.1)).map (·.id)) })
      (fun q => ⟨87, [(1, .list 1 (hs.map iC)), (2, .ptr 48 1 0 0), (4, .ptr 80 1 0 0), (7, q.1.2.2), (23, .list 41 (l.map Tok.c)), (24, .int .i64 l.length), (25, .int .i64 (q.1.1 : Nat))], q.1.2.1⟩) (fun q => l.length - q.1.1)
      ⟨(0, _, .nils), by simp, rfl, rfl, .inl ⟨rfl, rfl⟩⟩ (AS.le_of rfl ⟨rfl, rfl, rfl, rfl, rfl, rfl, rfl, trivial⟩ (fun _ => rfl)) ?_
    rintro ⟨⟨k, h, P⟩, hk, h1, h2, hP⟩
    dsimp only at hk h1 h2 hP ⊢
    by_cases hk2 : k = l.length
    · subst hk2
      rw [List.take_length] at hP
      have hdl : (dues l).length ≤ 9000 := Nat.le_trans (List.length_filter_le _ _) hl
      refine W.accD 7 (id := 576) (s := 1) (e := 30) (l := ((dues l).map (·.id)).map uC) rfl (by
        rcases hP with ⟨a, b⟩ | ⟨g, a, b⟩
        · exact .inl ⟨a, by rw [b]; rfl⟩
        · exact .inr ⟨g, by rw [List.length_map]; exact a, b⟩) fun H' hH => ?_
      rw [← hH 48 (by decide)] at h1
      rw [← hH 80 (by decide)] at h2
      clear hP hk
      have b1 : badH l hs = ((((dues l).length : Int) != (hs.length : Int)) || decide (0 ≤ idxN 0 hs)) := by
        rw [← unfl_end, unfl, List.take_length, idxN_bad]
      repeat' (first | refine ZV ?_ | refine ZB tm unq_specs_ok ?_ | refine ZH (fun hb => ?_) (fun hb => ?_) | refine ZJ (by conv => lhs; simp [h1, h2, tkC, cn, ctnR, caph, cc, cap]) ?_ | refine ZA (fun hb => ?_) (fun hb => ?_))
      · have hbad : badH l hs = true := by rw [b1, Bool.or_eq_true]; exact .inl hb
        rw [if_pos hbad] at hR
        subst hR
        refine RetNf.dataE rfl (by conv => lhs; simp) (by conv => lhs; simp) (by first | rfl | simp [inlT, inlV]) (rU_nrm0 2)
      · have hbad : badH l hs = true := by rw [b1, Bool.or_eq_true]; exact .inr hb
        rw [if_pos hbad] at hR
        subst hR
        refine RetNf.dataE rfl (by conv => lhs; simp) (by conv => lhs; simp) (by first | rfl | simp [inlT, inlV]) (rU_nrm0 2)
      · have hbad : badH l hs = false := by rw [b1, Bool.or_eq_false_iff]; exact ⟨by assumption, hb⟩
        rw [if_neg (by simp [hbad])] at hR
        have hbd : (dues l).length = hs.length := by
          simp only [badH, Bool.or_eq_false_iff] at hbad
          simpa using hbad.1
        obtain ⟨n, hn⟩ : ∃ n, (dues l).length = n := ⟨_, rfl⟩
        have capn : n ≤ 9223372036854775807 := by omega
        refine W.loop rfl (ι := { q : Nat × NL ABlk × AV × Nat × Nat × Nat // q.1 ≤ n ∧ lk q.2.1 80 = some { gen := 1, kind := 2, elem := 69, size := 2, inl := false, rows := [[.int .i64 0, .nils]] } ∧ lk q.2.1 192 = some { gen := q.2.2.2.2.2, kind := 2, elem := 69, size := 2, inl := false, rows := [[.int .i64 nd, .sl q.2.2.2.1 q.2.2.2.2.1 0 (gvL q.1 l).length]] } ∧ (q.2.2.2.1 = 800 ∨ q.2.2.2.1 = 1040) ∧ lk q.2.1 q.2.2.2.1 = some (tkB q.2.2.2.2.1 (gvL q.1 l)) ∧ IsM 1152 q.2.1 q.2.2.1 ((unpM nd l hs).take q.1) })
          (fun q => ⟨87, [(1, .list 1 (hs.map iC)), (4, .ptr 80 1 0 0), (11, .ptr 192 q.1.2.2.2.2.2 0 0), (12, q.1.2.2.1), (50, .list 1 (List.map (uC ∘ fun x => x.id) (dues l))), (51, .int .i64 (dues l).length), (52, .int .i64 (q.1.1 : Nat))], q.1.2.1⟩) (fun q => n - q.1.1)
          ⟨(0, _, .nils, 800, ((lk H' 800).getD {}).gen + 1, ((lk H' 192).getD {}).gen + 1), by simp, by simp [lk_st, h2], by simp [lk_st, gvL_z], .inl rfl, by simp [lk_st, tkB, gvL_z], .inl ⟨rfl, rfl⟩⟩ (AS.le_of rfl ⟨rfl, rfl, rfl, rfl, rfl, rfl, rfl, trivial⟩ (fun _ => rfl)) ?_
        clear h1 h2 cc
        rintro ⟨⟨j, h, M, X, gx, gc⟩, hj, h2, h3, hX, h4, hM⟩
        dsimp only at hj h2 h3 hX h4 hM ⊢
        by_cases hj2 : j = n
        · subst hj2
          have hgl := gvL_len l (dues l).length
          rw [hn] at hgl
          have hend := gvL_end l
          rw [hn] at hend
          have hms : (unpM nd l hs).take j = unpM nd l hs := List.take_of_length_le (by rw [unpM_len (by omega)]; omega)
          rw [hms] at hM
          subst hR
          rw [← hend]
          generalize gvL j l = C at *
          generalize unpM nd l hs = ms at *
          have capC : C.length ≤ 9223372036854775807 := by omega
          rw [hn]
          refine W.accD 12 (id := 1152) (s := 45) (e := 50) (l := ms.map Msg.v) rfl (by
            rcases hM with ⟨a, b⟩ | ⟨g, a, b⟩
            · exact .inl ⟨a, by rw [b]; rfl⟩
            · exact .inr ⟨g, by rw [List.length_map]; exact a, b⟩) fun H2 hH2 => ?_
          rw [← hH2 80 (by decide)] at h2
          rw [← hH2 192 (by decide)] at h3
          rw [← hH2 X (by omega)] at h4
          clear hH2 hM
          rcases hX with rfl | rfl
          · repeat' (first | refine ZV ?_ | refine ZB tm unq_specs_ok ?_ | refine ZH (fun hb => ?_) (fun hb => ?_) | refine ZJ (by conv => lhs; simp [h3, h4, capC, tkB, take_acc]) ?_ | refine ZA (fun hb => ?_) (fun hb => ?_))
            refine W.loop rfl (ι := { q : Nat × NL ABlk // q.1 ≤ C.length ∧ lk q.2 80 = some { gen := 1, kind := 2, elem := 69, size := 2, inl := false, rows := [[.int .i64 0, .nils]] } ∧ lk q.2 192 = some { gen := gc, kind := 2, elem := 69, size := 2, inl := false, rows := [[.int .i64 nd, .sl 800 gx 0 C.length]] } ∧ lk q.2 800 = some (tkB gx (midL C q.1)) })
              (fun q => ⟨87, [(4, .ptr 80 1 0 0), (11, .ptr 192 gc 0 0), (12, .list 45 (ms.map Msg.v)), (75, .int .i64 C.length), (76, .int .i64 (q.1.1 : Nat))], q.1.2⟩) (fun q => C.length - q.1.1)
              ⟨(0, _), by simp, h2, h3, by simp [midL]; exact h4⟩ (AS.le_of rfl ⟨rfl, rfl, rfl, rfl, rfl, trivial⟩ (fun _ => rfl)) ?_
            clear h2 h3 h4
            rintro ⟨⟨k, h⟩, hk, h2, h3, h4⟩
            dsimp only at hk h2 h3 h4 ⊢
            by_cases hk2 : k = C.length
            · subst hk2
              have e : midL C C.length = C.map unpinT := by simp [midL]
              rw [e] at h4
              have tl : ∀ L : List Tok, (List.map Tok.c (List.map unpinT L)).take L.length = List.map Tok.c (List.map unpinT L) := fun L => List.take_of_length_le (by simp)
              repeat' (first | refine ZV ?_ | refine ZB tm unq_specs_ok ?_ | refine ZH (fun hb => ?_) (fun hb => ?_) | refine ZJ (by conv => lhs; simp [h2, h3, h4, tkB]) ?_ | refine ZA (fun hb => ?_) (fun hb => ?_))
              refine RetNf.dataE rfl (by conv => lhs; simp) (by conv => lhs; simp [h4, tkB, tl]) (by first | rfl | simp [inlT, inlV]) ?_
              refine (congrArg (nrmR Try.prog [69, 87, 51]) ?_).trans (rU_nrm nd (C.map unpinT) ms 0)
              simp [rU]
              exact List.take_of_length_le (by simp)
            · have hlt : k < C.length := by omega
              obtain ⟨x, hr⟩ := get_lt hlt
              have hm : ((midL C k).map Tok.c)[k]? = some x.c := by rw [List.getElem?_map, midL_get hr]; rfl
              have hst := midL_set hr
              have hst2 : ((midL C k).map Tok.c).set k (unpinT x).c = (midL C (k + 1)).map Tok.c := by rw [← hst, List.map_set]
              have hml := midL_len C k
              have q1 : (k : Int) < C.length := by omega
              have q2 : ¬ C.length ≤ k := by omega
              have hw : IntKind.i64.wrap ((k : Int) + 1) = ((k + 1 : Nat) : Int) := w64 (by omega) (by omega)
              clear hst hlt hk2
              generalize hC1 : midL C (k + 1) = C1 at *
              generalize midL C k = C0 at *
              obtain ⟨a1, a2, o, a3, a4, a5⟩ := x
              simp only [Tok.c, unpinT] at hm hst2
              repeat' (first | refine ZV ?_ | refine ZB tm unq_specs_ok ?_ | refine ZH (fun hb => ?_) (fun hb => ?_) | refine ZJ (by conv => lhs; simp [q1, q2, hm, hw, h3, h4, tkB, hml, hst2]) ?_ | refine ZA (fun hb => ?_) (fun hb => ?_))
              exact ⟨⟨(k + 1, _), by dsimp only; omega, by simp [lk_st, h2], by simp [lk_st, h3], by simp [lk_st, tkB, hC1]⟩, by dsimp only; omega, AS.le_of rfl ⟨rfl, rfl, rfl, rfl, rfl, trivial⟩ (fun _ => rfl)⟩
          · repeat' (first | refine ZV ?_ | refine ZB tm unq_specs_ok ?_ | refine ZH (fun hb => ?_) (fun hb => ?_) | refine ZJ (by conv => lhs; simp [h3, h4, capC, tkB, take_acc]) ?_ | refine ZA (fun hb => ?_) (fun hb => ?_))
            refine W.loop rfl (ι := { q : Nat × NL ABlk // q.1 ≤ C.length ∧ lk q.2 80 = some { gen := 1, kind := 2, elem := 69, size := 2, inl := false, rows := [[.int .i64 0, .nils]] } ∧ lk q.2 192 = some { gen := gc, kind := 2, elem := 69, size := 2, inl := false, rows := [[.int .i64 nd, .sl 1040 gx 0 C.length]] } ∧ lk q.2 1040 = some (tkB gx (midL C q.1)) })
              (fun q => ⟨87, [(4, .ptr 80 1 0 0), (11, .ptr 192 gc 0 0), (12, .list 45 (ms.map Msg.v)), (75, .int .i64 C.length), (76, .int .i64 (q.1.1 : Nat))], q.1.2⟩) (fun q => C.length - q.1.1)
              ⟨(0, _), by simp, h2, h3, by simp [midL]; exact h4⟩ (AS.le_of rfl ⟨rfl, rfl, rfl, rfl, rfl, trivial⟩ (fun _ => rfl)) ?_
            clear h2 h3 h4
            rintro ⟨⟨k, h⟩, hk, h2, h3, h4⟩
            dsimp only at hk h2 h3 h4 ⊢
            by_cases hk2 : k = C.length
            · subst hk2
              have e : midL C C.length = C.map unpinT := by simp [midL]
              rw [e] at h4
              have tl : ∀ L : List Tok, (List.map Tok.c (List.map unpinT L)).take L.length = List.map Tok.c (List.map unpinT L) := fun L => List.take_of_length_le (by simp)
              repeat' (first | refine ZV ?_ | refine ZB tm unq_specs_ok ?_ | refine ZH (fun hb => ?_) (fun hb => ?_) | refine ZJ (by conv => lhs; simp [h2, h3, h4, tkB]) ?_ | refine ZA (fun hb => ?_) (fun hb => ?_))
              refine RetNf.dataE rfl (by conv => lhs; simp) (by conv => lhs; simp [h4, tkB, tl]) (by first | rfl | simp [inlT, inlV]) ?_
              refine (congrArg (nrmR Try.prog [69, 87, 51]) ?_).trans (rU_nrm nd (C.map unpinT) ms 0)
              simp [rU]
              exact List.take_of_length_le (by simp)
            · have hlt : k < C.length := by omega
              obtain ⟨x, hr⟩ := get_lt hlt
              have hm : ((midL C k).map Tok.c)[k]? = some x.c := by rw [List.getElem?_map, midL_get hr]; rfl
              have hst := midL_set hr
              have hst2 : ((midL C k).map Tok.c).set k (unpinT x).c = (midL C (k + 1)).map Tok.c := by rw [← hst, List.map_set]
              have hml := midL_len C k
              have q1 : (k : Int) < C.length := by omega
              have q2 : ¬ C.length ≤ k := by omega
              have hw : IntKind.i64.wrap ((k : Int) + 1) = ((k + 1 : Nat) : Int) := w64 (by omega) (by omega)
              clear hst hlt hk2
              generalize hC1 : midL C (k + 1) = C1 at *
              generalize midL C k = C0 at *
              obtain ⟨a1, a2, o, a3, a4, a5⟩ := x
              simp only [Tok.c, unpinT] at hm hst2
              repeat' (first | refine ZV ?_ | refine ZB tm unq_specs_ok ?_ | refine ZH (fun hb => ?_) (fun hb => ?_) | refine ZJ (by conv => lhs; simp [q1, q2, hm, hw, h3, h4, tkB, hml, hst2]) ?_ | refine ZA (fun hb => ?_) (fun hb => ?_))
              exact ⟨⟨(k + 1, _), by dsimp only; omega, by simp [lk_st, h2], by simp [lk_st, h3], by simp [lk_st, tkB, hC1]⟩, by dsimp only; omega, AS.le_of rfl ⟨rfl, rfl, rfl, rfl, rfl, trivial⟩ (fun _ => rfl)⟩
        · have hlt : j < n := by omega
          obtain ⟨t, ht⟩ := get_lt (l := dues l) (i := j) (by omega)
          obtain ⟨m, hh⟩ := get_lt (l := hs) (i := j) (by omega)
          have hhm : (hs.map iC)[j]? = some [.int .i64 m] := by rw [List.getElem?_map, hh]; rfl
          have htm : (List.map (uC ∘ fun x => x.id) (dues l))[j]? = some [.int .u64 t.id] := by rw [List.getElem?_map, ht]; rfl
          have q1 : (j : Int) < n := by omega
          have q3 : (j : Int) < hs.length := by omega
          have q2 : ¬ n ≤ j := by omega
          have q4 : ¬ hs.length ≤ j := by omega
          have hw : IntKind.i64.wrap ((j : Int) + 1) = ((j + 1 : Nat) : Int) := w64 (by omega) (by omega)
          have hl3 := Nat.le_trans (gvL_len l j) hl
          have cg := gvp_eq nd (gvL j l) hl3 t.id m t (gvL_srt srt j) (gvL_fnd srt ht)
          rw [gvL_put srt ht] at cg
          have zt := zip_take (nd := nd) ht hh
          have zl : ((unpM nd l hs).take j).length = j := by
            rw [List.length_take, unpM_len (by omega)]
            omega
          generalize bckM nd t m = N at *
          generalize hC : gvL j l = C at *
          generalize hC1 : gvL (j + 1) l = C1 at *
          generalize (unpM nd l hs).take j = ms at *
          generalize t.id = tid at *
          obtain ⟨c1, c2, c3, c4, c5, p, c6, c7, c8, c9⟩ := N
          simp only [tkB0, Msg.v] at cg
          have y0 : ms.length ≤ 9000 := by omega
          have y1 : ms.length ≤ maxLen := by simp only [maxLen]; omega
          have y2 : (ms.length + 1) * 536 ≤ 140737488355328 := by omega
          have y4 : ms.length + 1 ≤ maxLen := by simp only [maxLen]; omega
          rw [hn]
          clear hlt hj2 y0 b1
          rcases hX with rfl | rfl <;> rcases hM with ⟨rfl, rfl⟩ | ⟨gm, rfl, hmm⟩
          · repeat' (first | refine ZV ?_ | refine ZB tm unq_specs_ok ?_ | refine ZH (fun hb => ?_) (fun hb => ?_) | refine ZJ (by conv => lhs; simp [q1, q2, q3, q4, hhm, htm, hw, h3, h4, tkB, cg, m1, take_acc]) ?_ | refine ZA (fun hb => ?_) (fun hb => ?_))
            exact ⟨⟨(j + 1, _, .sl 1152 (((lk h 1152).getD {}).gen + 1) 0 1, 1040, ((lk h 1040).getD {}).gen + 1, gc), by dsimp only; omega, by simp [lk_st, h2], by simp [lk_st, hC1], .inr rfl, by simp [lk_st, hC1, tkB], .inr ⟨_, by dsimp only; rw [zt]; rfl, by dsimp only; rw [zt]; simp [lk_st, msB]⟩⟩, by dsimp only; omega, AS.le_of rfl ⟨rfl, rfl, rfl, rfl, rfl, rfl, rfl, trivial⟩ (fun _ => rfl)⟩
          · repeat' (first | refine ZV ?_ | refine ZB tm unq_specs_ok ?_ | refine ZH (fun hb => ?_) (fun hb => ?_) | refine ZJ (by conv => lhs; simp [q1, q2, q3, q4, hhm, htm, hw, h3, h4, tkB, cg, m1, take_acc, y1, y2, y4, hmm, msB]) ?_ | refine ZA (fun hb => ?_) (fun hb => ?_))
            exact ⟨⟨(j + 1, _, .sl 1152 (gm + 1) 0 (ms.length + 1), 1040, ((lk h 1040).getD {}).gen + 1, gc), by dsimp only; omega, by simp [lk_st, h2], by simp [lk_st, hC1], .inr rfl, by simp [lk_st, hC1, tkB], .inr ⟨gm + 1, by dsimp only; rw [zt]; simp, by dsimp only; rw [zt]; simp [lk_st, msB, first_all]⟩⟩, by dsimp only; omega, AS.le_of rfl ⟨rfl, rfl, rfl, rfl, rfl, rfl, rfl, trivial⟩ (fun _ => rfl)⟩
          · repeat' (first | refine ZV ?_ | refine ZB tm unq_specs_ok ?_ | refine ZH (fun hb => ?_) (fun hb => ?_) | refine ZJ (by conv => lhs; simp [q1, q2, q3, q4, hhm, htm, hw, h3, h4, tkB, cg, m1, take_acc]) ?_ | refine ZA (fun hb => ?_) (fun hb => ?_))
            exact ⟨⟨(j + 1, _, .sl 1152 (((lk h 1152).getD {}).gen + 1) 0 1, 1040, gx + 1, gc), by dsimp only; omega, by simp [lk_st, h2], by simp [lk_st, hC1], .inr rfl, by simp [lk_st, hC1, tkB], .inr ⟨_, by dsimp only; rw [zt]; rfl, by dsimp only; rw [zt]; simp [lk_st, msB]⟩⟩, by dsimp only; omega, AS.le_of rfl ⟨rfl, rfl, rfl, rfl, rfl, rfl, rfl, trivial⟩ (fun _ => rfl)⟩
          · repeat' (first | refine ZV ?_ | refine ZB tm unq_specs_ok ?_ | refine ZH (fun hb => ?_) (fun hb => ?_) | refine ZJ (by conv => lhs; simp [q1, q2, q3, q4, hhm, htm, hw, h3, h4, tkB, cg, m1, take_acc, y1, y2, y4, hmm, msB]) ?_ | refine ZA (fun hb => ?_) (fun hb => ?_))
            exact ⟨⟨(j + 1, _, .sl 1152 (gm + 1) 0 (ms.length + 1), 1040, gx + 1, gc), by dsimp only; omega, by simp [lk_st, h2], by simp [lk_st, hC1], .inr rfl, by simp [lk_st, hC1, tkB], .inr ⟨gm + 1, by dsimp only; rw [zt]; simp, by dsimp only; rw [zt]; simp [lk_st, msB, first_all]⟩⟩, by dsimp only; omega, AS.le_of rfl ⟨rfl, rfl, rfl, rfl, rfl, rfl, rfl, trivial⟩ (fun _ => rfl)⟩
    · have hlt : k < l.length := by omega
      obtain ⟨x, hr⟩ := get_lt hlt
      have hm : (l.map Tok.c)[k]? = some x.c := by rw [List.getElem?_map, hr]; rfl
      have q1 : (k : Int) < l.length := by omega
      have q2 : ¬ l.length ≤ k := by omega
      have hw : IntKind.i64.wrap ((k : Int) + 1) = ((k + 1 : Nat) : Int) := w64 (by omega) (by omega)
      have dl := dues_take_le l k
      have e0 : dues (l.take (k + 1)) = dues (l.take k) ++ dues [x] := by rw [take_app hr]; simp [dues]
      have y1 : (dues (l.take k)).length ≤ maxLen := by simp only [maxLen]; omega
      have y2 : ((dues (l.take k)).length + 1) * 8 ≤ 140737488355328 := by omega
      have y4 : (dues (l.take k)).length + 1 ≤ maxLen := by simp only [maxLen]; omega
      generalize dues (l.take k) = D at *
      obtain ⟨a1, a2, o, a3, a4, a5⟩ := x
      simp only [Tok.c] at hm
      clear hlt hk2 dl
      cases a5 with
      | true =>
        have e2 : (dues (l.take (k + 1))).map (·.id) = D.map (·.id) ++ [a1] := by rw [e0]; simp [dues]
        rcases hP with ⟨rfl, e⟩ | ⟨g, rfl, hb⟩
        · repeat' (first | refine ZV ?_ | refine ZB tm unq_specs_ok ?_ | refine ZH (fun hb => ?_) (fun hb => ?_) | refine ZJ (by conv => lhs; simp [q1, q2, hm, hw, m1]) ?_ | refine ZA (fun hb => ?_) (fun hb => ?_))
          exact ⟨⟨(k + 1, _, .sl 576 _ 0 1), by dsimp only; omega, by simp [lk_st, h1], by simp [lk_st, h2], .inr ⟨_, by dsimp only; rw [e2, e]; rfl, by dsimp only; rw [e2, e]; simp [lk_st, idB, uC]⟩⟩, by dsimp only; omega, AS.le_of rfl ⟨rfl, rfl, rfl, rfl, rfl, rfl, rfl, trivial⟩ (fun _ => rfl)⟩
        · rw [List.length_map] at *
          repeat' (first | refine ZV ?_ | refine ZB tm unq_specs_ok ?_ | refine ZH (fun hb => ?_) (fun hb => ?_) | refine ZJ (by conv => lhs; simp [q1, q2, hm, hw, m1, y1, y2, y4, hb, idB]) ?_ | refine ZA (fun hb => ?_) (fun hb => ?_))
          exact ⟨⟨(k + 1, _, .sl 576 (g + 1) 0 (D.length + 1)), by dsimp only; omega, by simp [lk_st, h1], by simp [lk_st, h2], .inr ⟨g + 1, by dsimp only; rw [e2]; simp, by dsimp only; rw [e2]; simp [lk_st, idB, uC, first_all]⟩⟩, by dsimp only; omega, AS.le_of rfl ⟨rfl, rfl, rfl, rfl, rfl, rfl, rfl, trivial⟩ (fun _ => rfl)⟩
      | false =>
        have e2 : (dues (l.take (k + 1))).map (·.id) = D.map (·.id) := by rw [e0]; simp [dues]
        repeat' (first | refine ZV ?_ | refine ZB tm unq_specs_ok ?_ | refine ZH (fun hb => ?_) (fun hb => ?_) | refine ZJ (by conv => lhs; simp [q1, q2, hm, hw]) ?_ | refine ZA (fun hb => ?_) (fun hb => ?_))
        exact ⟨⟨(k + 1, _, P), by dsimp only; omega, by simp [lk_st, h1], by simp [lk_st, h2], by
          dsimp only
          rw [e2]
          rcases hP with ⟨rfl, e⟩ | ⟨g, rfl, hb⟩
          · exact .inl ⟨rfl, e⟩
          · exact .inr ⟨g, rfl, by simp [lk_st, hb]⟩⟩, by dsimp only; omega, AS.le_of rfl ⟨rfl, rfl, rfl, rfl, rfl, rfl, rfl, trivial⟩ (fun _ => rfl)⟩
end Go.Abs.Na
namespace Go.Abs.Na
open Go Go.Proofs Go.Abs
set_option maxRecDepth 100000
set_option maxHeartbeats 4000000
set_option linter.unusedSimpArgs false
set_option linter.unusedVariables false
attribute [local simp] instA
/-- Data of a type. -/
def Raw (t : TypeId) := { xs : List AV // TyR Try.prog 8 t xs }
def encR (t : TypeId) (x : Raw t) : List AV := [.agg x.1]
theorem encR_inj (t : TypeId) : ∀ x y : Raw t, encR t x = encR t y → x = y := fun x y h => by
  simp only [encR, List.cons.injEq, AV.agg.injEq, and_true] at h
  exact Subtype.ext h
def Kp (t : TypeId) (x : Raw t) (r : AV × List ABlk) : Prop := ∃ b, r = (.bool b, []) ∧ (b = true → bdL 10000 x.1 = true)
theorem kp_ne (t : TypeId) (x : Raw t) : ∃ r, Kp t x r := ⟨(.bool false, []), false, rfl, by simp⟩
theorem bd_ints {rows : List (List AV)} (h : ∀ r ∈ rows, ∃ k m, r = [AV.int k m]) : bdRows 10000 rows = true := bdRows_of fun r hr => by
  obtain ⟨k, m, rfl⟩ := h r hr
  rfl
theorem bd_instr (rows : List (List AV)) (h : ∀ r ∈ rows, TyR Try.prog 8 252 r) : bdRows 10000 rows = true := bdRows_of fun r hr => by
  obtain ⟨x0, x1, x2, x3, rfl, -⟩ := viewInstr (h r hr)
  rfl
theorem bd_str (rows : List (List AV)) (h : ∀ r ∈ rows, TyR Try.prog 8 9 r) : bdRows 10000 rows = true := bdRows_of fun r hr => by
  have := h r hr
  simp only [TyR_string Try.underlying9] at this
  obtain ⟨s, rfl, -⟩ := this
  rfl
theorem bd_int {t : TypeId} {k : IntKind} (hu : Try.prog.underlying t = some (.int k)) (rows : List (List AV)) (h : ∀ r ∈ rows, TyR Try.prog 8 t r) : bdRows 10000 rows = true := bdRows_of fun r hr => by
  have := h r hr
  simp only [TyR_int hu] at this
  obtain ⟨m, rfl, -⟩ := this
  rfl
theorem bd_page (rows : List (List AV)) (h : ∀ r ∈ rows, TyR Try.prog 8 224 r) : bdRows 10000 rows = true := bdRows_of fun r hr => by
  obtain ⟨x0, x1, rfl, -⟩ := viewPageRef (h r hr)
  rfl
theorem bd_slot (rows : List (List AV)) (h : ∀ r ∈ rows, TyR Try.prog 8 227 r) : bdRows 10000 rows = true := bdRows_of fun r hr => by
  obtain ⟨x0, x1, x2, x3, rfl, -⟩ := viewSlot (h r hr)
  rfl
theorem kpP_ex : ∃ S, FnC Try.prog 70 S ∧ ∀ x : Raw 35, ∃ r, S (encR _ x) [] = some r ∧ Kp _ x r := by
  refine FnC.existsA 70 (fn := Try.f70) Try.func70 rfl (by kernel_rfl) (encR_inj _) (kp_ne _) fun x => ?_
  obtain ⟨xs, hx⟩ := x
  obtain ⟨x0, x1, x2, rfl, h0, h1, -⟩ := viewProgram hx
  change W _ _ _ _ ⟨26, [(0, .agg [.list 4 x0, .list 1 x1, .int .i64 x2])], []⟩
  try refine ZT ?_
  refine ZK tm no_specs rfl (by conv => lhs; simp) fun _ => ?_
  try refine ZT ?_
  refine ZK tm no_specs rfl (by conv => lhs; simp) fun hA => ?_
  have capA : x1.length ≤ maxLen := hA
  have cap : x1.length ≤ 9223372036854775807 := by simpa [maxLen] using capA
  try refine ZT ?_
  refine W.loop rfl (ι := { q : Nat × NL ABlk // q.1 ≤ x1.length ∧ lk q.2 32 = some { gen := 1, kind := 2, elem := 35, size := 3, inl := false, rows := [[.list 4 x0, .list 1 x1, .int .i64 x2]] } })
    (fun q => ⟨26, [(1, .ptr 32 1 0 0), (6, .list 1 x1), (7, .int .i64 x1.length), (8, .int .i64 (q.1.1 : Nat))], q.1.2⟩) (fun q => x1.length - q.1.1)
    ⟨(0, _), by simp, rfl⟩ (AS.le_of rfl ⟨rfl, rfl, rfl, rfl, trivial⟩ (fun _ => rfl)) ?_
  rintro ⟨⟨k, h⟩, hk, h2⟩
  dsimp only at hk h2 ⊢
  by_cases hk2 : k = x1.length
  · subst hk2
    repeat' (first | refine ZV ?_ | refine ZB tm no_specs ?_ | refine ZH (fun hb => ?_) (fun hb => ?_) | refine ZJ (by conv => lhs; simp [h2]) ?_ | refine ZA (fun hb => ?_) (fun hb => ?_))
    · refine ⟨(.bool _, []), ⟨_, rfl, ?_⟩, Ret.dataR rfl (by conv => lhs; simp) (by conv => lhs; simp) rfl⟩
      intro hc
      have e0 : x0.length ≤ 300 := by have := of_decide_eq_true hb; omega
      have e1 : x1.length ≤ 40 := by have := of_decide_eq_true hc; omega
      simp only [bdL, bdV, bd_instr x0 h0, bd_str x1 h1, Bool.and_true, Bool.and_eq_true, decide_eq_true_eq]
      omega
    · refine ⟨(.bool _, []), ⟨_, rfl, ?_⟩, Ret.dataR rfl (by conv => lhs; simp) (by conv => lhs; simp) rfl⟩
      intro hc
      cases hc
  · have hlt : k < x1.length := by omega
    obtain ⟨row, hr⟩ := get_lt hlt
    have ht := h1 row (List.mem_of_getElem? hr)
    simp only [TyR_string Try.underlying9] at ht
    obtain ⟨s, rfl, hs⟩ := ht
    have q1 : (k : Int) < x1.length := by omega
    have q2 : ¬ x1.length ≤ k := by omega
    have hw : IntKind.i64.wrap ((k : Int) + 1) = ((k + 1 : Nat) : Int) := w64 (by omega) (by omega)
    clear hlt hk2
    repeat' (first | refine ZV ?_ | refine ZB tm no_specs ?_ | refine ZH (fun hb => ?_) (fun hb => ?_) | refine ZJ (by conv => lhs; simp [q1, q2, hr, hw, h2, hs]) ?_ | refine ZA (fun hb => ?_) (fun hb => ?_))
    · refine ⟨(.bool _, []), ⟨_, rfl, ?_⟩, Ret.dataR rfl (by conv => lhs; simp) (by conv => lhs; simp) rfl⟩
      intro hc
      cases hc
    · exact ⟨⟨(k + 1, _), by dsimp only; omega, h2⟩, by dsimp only; omega, AS.le_of rfl ⟨rfl, rfl, rfl, rfl, trivial⟩ (fun _ => rfl)⟩
end Go.Abs.Na
namespace Go.Abs.Na
open Go Go.Proofs Go.Abs
set_option maxRecDepth 100000
set_option maxHeartbeats 4000000
set_option linter.unusedSimpArgs false
set_option linter.unusedVariables false
attribute [local simp] instA
theorem bd_name (rows : List (List AV)) (h : ∀ r ∈ rows, TyR Try.prog 8 137 r) (hb : ∀ r ∈ rows, bdL 10000 r = true) : bdRows 10000 rows = true := bdRows_of hb
set_option maxHeartbeats 8000000
theorem kpO_ex : ∃ S, FnC Try.prog 22 S ∧ ∀ x : Raw 48, ∃ r, S (encR _ x) [] = some r ∧ Kp _ x r := by
  obtain ⟨SP, hSP, hSPe⟩ := kpP_ex
  have specs_ok : ∀ p ∈ ([(70, ⟨1, SP⟩)] : NL Spec), FnC Try.prog p.1 p.2.fn := by
    simp only [List.mem_cons, List.not_mem_nil, or_false]
    rintro p rfl
    exact hSP
  refine FnC.existsA 22 (fn := Try.f22) Try.func22 rfl (by kernel_rfl) (encR_inj _) (kp_ne _) fun x => ?_
  obtain ⟨xs, hx⟩ := x
  obtain ⟨x0, x1, x2, xp, x4, x5, x6, x7, x8, x9, x10, x11, x12, x13, x14, x15, x16, rfl, -, -, -, hp, h4, h5, -, -, -, -, h10, h11, h12, -, -, -, h16⟩ := viewObject hx
  obtain ⟨y0, y1, y2, yp, yc, y5, y6, y7, y8, y9, rfl, -, -, g2, hpp, hpc, g5, g6, -, -, -⟩ := viewProcess hp
  obtain ⟨p0, p1, p2, rfl, k0, k1, -⟩ := viewProgram hpp
  obtain ⟨c0, c1, c2, c3, c4, c5, c6, c7, c8, rfl, -⟩ := viewCPU hpc
  obtain ⟨rP, cP, bP, rfl, hbP⟩ := hSPe ⟨_, hpp⟩
  simp only [encR] at cP
  dsimp only at hbP
  change W _ _ _ _ ⟨85, [(0, .agg [.int .u64 x0, .int .i64 x1, .int .i64 x2, .int .i64 y0, .int .u64 y1, .list 1 y2, .list 4 p0, .list 1 p1, .int .i64 p2, .int .i64 c0, .int .i64 c1, .int .i64 c2, .int .i64 c3, .int .i64 c4, .int .i64 c5, .int .i64 c6, .int .i64 c7, .int .i64 c8, .list 2 y5, .list 4 y6, .int .i64 y7, .int .i64 y8, .int .i64 y9, .list 1 x4, .list 1 x5, .int .i64 x6, .int .u64 x7, .int .i64 x8, .int .i64 x9, .list 1 x10, .list 1 x11, .list 1 x12, .int .i64 x13, .int .i64 x14, .int .i64 x15, .list 3 x16])], []⟩
  try refine ZT ?_
  refine ZK tm specs_ok rfl (by conv => lhs; simp) fun _ => ?_
  try refine ZT ?_
  refine ZK tm specs_ok rfl (by conv => lhs; simp) fun hA => ?_
  have cap : x16.length ≤ 9223372036854775807 := by simpa [maxLen] using hA
  try refine ZT ?_
  refine W.loop rfl (ι := { q : Nat × NL ABlk // q.1 ≤ x16.length ∧ (∀ r ∈ x16.take q.1, bdL 10000 r = true) ∧ lk q.2 32 = some { gen := 1, kind := 2, elem := 48, size := 36, inl := false, rows := [[.int .u64 x0, .int .i64 x1, .int .i64 x2, .int .i64 y0, .int .u64 y1, .list 1 y2, .list 4 p0, .list 1 p1, .int .i64 p2, .int .i64 c0, .int .i64 c1, .int .i64 c2, .int .i64 c3, .int .i64 c4, .int .i64 c5, .int .i64 c6, .int .i64 c7, .int .i64 c8, .list 2 y5, .list 4 y6, .int .i64 y7, .int .i64 y8, .int .i64 y9, .list 1 x4, .list 1 x5, .int .i64 x6, .int .u64 x7, .int .i64 x8, .int .i64 x9, .list 1 x10, .list 1 x11, .list 1 x12, .int .i64 x13, .int .i64 x14, .int .i64 x15, .list 3 x16]] } })
    (fun q => ⟨85, [(1, .ptr 32 1 0 0), (7, .list 3 x16), (8, .int .i64 x16.length), (9, .int .i64 (q.1.1 : Nat))], q.1.2⟩) (fun q => x16.length - q.1.1)
    ⟨(0, _), by simp, by simp, rfl⟩ (AS.le_of rfl ⟨rfl, rfl, rfl, rfl, trivial⟩ (fun _ => rfl)) ?_
  rintro ⟨⟨k, h⟩, hk, hbd, h2⟩
  dsimp only at hk hbd h2 ⊢
  by_cases hk2 : k = x16.length
  · subst hk2
    rw [List.take_length] at hbd
    repeat' (first | refine ZV ?_ | refine ZB tm specs_ok ?_ | refine ZH (fun hb => ?_) (fun hb => ?_) | refine ZJ (by conv => lhs; simp [h2, cP]) ?_ | refine ZA (fun hb => ?_) (fun hb => ?_))
    all_goals (refine ⟨(.bool _, []), ⟨_, rfl, ?_⟩, Ret.dataR rfl (by conv => lhs; simp) (by conv => lhs; simp) rfl⟩)
    all_goals intro hc
    all_goals first
      | (cases hc; done)
      | (have hPb := hbP (by assumption)
         have r1 := bd_int Try.underlying30 y2 g2
         have r2 := bd_page y5 g5
         have r3 := bd_slot y6 g6
         have r4 := bd_int Try.underlying2 x4 h4
         have r5 := bd_int Try.underlying5 x5 h5
         have r6 := bd_int Try.underlying30 x10 h10
         have r7 := bd_int Try.underlying5 x11 h11
         have r8 := bd_int Try.underlying5 x12 h12
         have r9 := bdRows_of hbd
         clear h2 cP hA
         simp only [bdL, bdV, Bool.and_eq_true, decide_eq_true_eq, Bool.and_true] at *
         simp only [List.cons_append, List.nil_append, bdL, bdV, r1, r2, r3, r4, r5, r6, r7, r8, r9, hPb, Bool.and_true, Bool.and_eq_true, decide_eq_true_eq, true_and, and_true]
         omega)
  · have hlt : k < x16.length := by omega
    obtain ⟨row, hr⟩ := get_lt hlt
    obtain ⟨n0, n1, n2, rfl, -, hn2⟩ := viewName (h16 row (List.mem_of_getElem? hr))
    have q1 : (k : Int) < x16.length := by omega
    have q2 : ¬ x16.length ≤ k := by omega
    have hw : IntKind.i64.wrap ((k : Int) + 1) = ((k + 1 : Nat) : Int) := w64 (by omega) (by omega)
    clear hlt hk2
    have ht : x16.take (k + 1) = x16.take k ++ [[.str n0, .int .i64 n1, .list 1 n2]] := by rw [List.take_add_one, hr]; rfl
    repeat' (first | refine ZV ?_ | refine ZB tm specs_ok ?_ | refine ZH (fun hb => ?_) (fun hb => ?_) | refine ZJ (by conv => lhs; simp [q1, q2, hr, hw, h2]) ?_ | refine ZA (fun hb => ?_) (fun hb => ?_))
    all_goals first
      | (refine ⟨(.bool false, []), ⟨false, rfl, fun hc => by cases hc⟩, Ret.dataR rfl (by conv => lhs; simp) (by conv => lhs; simp) rfl⟩; done)
      | skip
    · have e0 : n2.length ≤ 20 := by have := of_decide_eq_false hb; omega
      refine ⟨⟨(k + 1, _), by dsimp only; omega, ?_, by simp [lk_st, h2]⟩, by dsimp only; omega, AS.le_of rfl ⟨rfl, rfl, rfl, rfl, trivial⟩ (fun _ => rfl)⟩
      dsimp only
      rw [ht]
      intro r hr
      rcases List.mem_append.1 hr with hr | hr
      · exact hbd r hr
      · rw [List.mem_singleton] at hr
        subst hr
        simp only [bdL, bdV, bd_int Try.underlying30 n2 hn2, Bool.and_true, Bool.true_and, true_and, and_true, decide_eq_true_eq]
        omega
end Go.Abs.Na
namespace Go.Abs.Na
open Go Go.Proofs Go.Abs
set_option maxRecDepth 100000
set_option maxHeartbeats 4000000
set_option linter.unusedSimpArgs false
set_option linter.unusedVariables false
attribute [local simp] instA
attribute [-simp] mkv
attribute [local simp] mkv_hd hdA_cons hdA_ob hdA_ob'
/-- Data of a type, one level deeper. -/
def Raw9 (t : TypeId) := { xs : List AV // TyR Try.prog 9 t xs }
def encR9 (t : TypeId) (x : Raw9 t) : List AV := [.agg x.1]
theorem encR9_inj (t : TypeId) : ∀ x y : Raw9 t, encR9 t x = encR9 t y → x = y := fun x y h => by
  simp only [encR9, List.cons.injEq, AV.agg.injEq, and_true] at h
  exact Subtype.ext h
theorem vcTok : Try.prog.cellsOf 77 = 41 := by kernel_rfl
theorem viewTokens {xs : List AV} (h : TyR Try.prog 9 69 xs) : ∃ (x0 : Int) (x1 : List (List AV)), xs = [.int .i64 x0, .list 41 x1] ∧ (Lit.int .i64 x0).wf = true ∧ (∀ r ∈ x1, TyR Try.prog 8 77 r) := by
  simp only [TyFs, TyR_int Try.underlying3, TyR_slice Try.underlying67, TyR_struct Try.underlying69, vcTok, List.map_cons, List.map_nil, List.replicate] at h
  obtain ⟨_, _, rfl, ⟨x0, rfl, w0⟩, ⟨_, _, rfl, ⟨x1, rfl, _, w1⟩, rfl⟩⟩ := h
  refine ⟨x0, x1, ?_, w0, (fun r hr => TyR.monoN (by omega) (w1 r hr))⟩
  simp only [List.cons_append, List.nil_append, List.append_nil, List.append_assoc]
theorem raw_len {xs : List AV} (h : TyR Try.prog 8 48 xs) : xs.length = 36 := by
  rw [← (h.nrm (by omega)).1, obLeafs]
theorem raw_all {xs : List AV} (h : TyR Try.prog 8 48 xs) : xs.all AV.dat = true := h.dat
def KpT (x : Raw9 69) (r : AV × List ABlk) : Prop := ∃ b, r = (.bool b, []) ∧ (b = true → ∃ (n : Int) (l : List Tok), x.1 = [.int .i64 n, .list 41 (l.map Tok.c)] ∧ l.length ≤ 12)
theorem kpT_ne (x : Raw9 69) : ∃ r, KpT x r := ⟨(.bool false, []), false, rfl, by simp⟩
theorem toks_of : ∀ {rows : List (List AV)}, (∀ r ∈ rows, ∃ t : Tok, r = t.c) → ∃ l : List Tok, rows = l.map Tok.c
  | [], _ => ⟨[], rfl⟩
  | r :: rs, h => by
    obtain ⟨t, rfl⟩ := h r (by simp)
    obtain ⟨l, rfl⟩ := toks_of (rows := rs) fun r hr => h r (by simp [hr])
    exact ⟨t :: l, rfl⟩
theorem kpT_ex : ∃ S, FnC Try.prog 21 S ∧ ∀ x : Raw9 69, ∃ r, S (encR9 _ x) [] = some r ∧ KpT x r := by
  obtain ⟨SO, hSO, hSOe⟩ := kpO_ex
  have specs_ok : ∀ p ∈ ([(22, ⟨1, SO⟩)] : NL Spec), FnC Try.prog p.1 p.2.fn := by
    simp only [List.mem_cons, List.not_mem_nil, or_false]
    rintro p rfl
    exact hSO
  refine FnC.existsA 21 (fn := Try.f21) Try.func21 rfl (by kernel_rfl) (encR9_inj _) kpT_ne fun x => ?_
  obtain ⟨xs, hx⟩ := x
  obtain ⟨n, rows, rfl, hn, hrows⟩ := viewTokens hx
  change W _ _ _ _ ⟨21, [(0, .agg [.int .i64 n, .list 41 rows])], []⟩
  try refine ZT ?_
  refine ZK tm specs_ok rfl (by conv => lhs; simp) fun _ => ?_
  try refine ZT ?_
  refine ZK tm specs_ok rfl (by conv => lhs; simp) fun hA => ?_
  have cap : rows.length ≤ 9223372036854775807 := by simpa [maxLen] using hA
  try refine ZT ?_
  refine W.loop rfl (ι := { q : Nat × NL ABlk // q.1 ≤ rows.length ∧ (∀ r ∈ rows.take q.1, ∃ t : Tok, r = t.c) ∧ lk q.2 32 = some { gen := 1, kind := 2, elem := 69, size := 2, inl := false, rows := [[.int .i64 n, .list 41 rows]] } })
    (fun q => ⟨21, [(1, .ptr 32 1 0 0), (6, .list 41 rows), (7, .int .i64 rows.length), (8, .int .i64 (q.1.1 : Nat))], q.1.2⟩) (fun q => rows.length - q.1.1)
    ⟨(0, _), by simp, by simp, rfl⟩ (AS.le_of rfl ⟨rfl, rfl, rfl, rfl, trivial⟩ (fun _ => rfl)) ?_
  rintro ⟨⟨k, h⟩, hk, hbd, h2⟩
  dsimp only at hk hbd h2 ⊢
  by_cases hk2 : k = rows.length
  · subst hk2
    rw [List.take_length] at hbd
    repeat' (first | refine ZV ?_ | refine ZB tm specs_ok ?_ | refine ZH (fun hb => ?_) (fun hb => ?_) | refine ZJ (by conv => lhs; simp [h2]) ?_ | refine ZA (fun hb => ?_) (fun hb => ?_))
    refine ⟨(.bool _, []), ⟨_, rfl, ?_⟩, Ret.dataR rfl (by conv => lhs; simp) (by conv => lhs; simp) rfl⟩
    intro hc
    obtain ⟨l, rfl⟩ := toks_of hbd
    refine ⟨n, l, rfl, ?_⟩
    have := of_decide_eq_true hc
    simp only [List.length_map] at this
    omega
  · have hlt : k < rows.length := by omega
    obtain ⟨row, hr⟩ := get_lt hlt
    obtain ⟨t0, t1, xo, t3, t4, t5, rfl, -, -, hxo, -⟩ := viewToken (hrows row (List.mem_of_getElem? hr))
    obtain ⟨r, cO, bO, rfl, hbO⟩ := hSOe ⟨xo, hxo⟩
    simp only [encR] at cO
    dsimp only at hbO
    have r3 := raw_len hxo
    have r0 := raw_all hxo
    have hc : xo.all AV.cellish = true := by rw [List.all_eq_true] at r0 ⊢; intro x hx; exact (dat_split (r0 x hx)).1
    have hi : xo.all AV.isInl = true := by rw [List.all_eq_true] at r0 ⊢; intro x hx; exact (dat_split (r0 x hx)).2
    have r4 : ∀ (l : List AV) (n : Nat), 36 ≤ n → (xo ++ l).take n = xo ++ l.take (n - 36) := fun l n h => by rw [List.take_append, r3, List.take_of_length_le (by omega)]
    have r5 : ∀ (l : List AV) (n : Nat), 36 ≤ n → (xo ++ l).drop n = l.drop (n - 36) := fun l n h => by rw [List.drop_append, r3, List.drop_eq_nil_of_le (by omega), List.nil_append]
    have r6 : ∀ b : Bool, xo.all (fun x => x.cellish && (!b || x.isInl)) = true := fun b => by
      rw [List.all_eq_true] at hc hi ⊢
      intro x hx
      simp [hc x hx, hi x hx]
    have q1 : (k : Int) < rows.length := by omega
    have q2 : ¬ rows.length ≤ k := by omega
    have hw : IntKind.i64.wrap ((k : Int) + 1) = ((k + 1 : Nat) : Int) := w64 (by omega) (by omega)
    have ht : rows.take (k + 1) = rows.take k ++ [.int .u64 t0 :: .int .i64 t1 :: (xo ++ [.int .i64 t3, .bool t4, .bool t5])] := by rw [List.take_add_one, hr]; rfl
    clear hlt hk2
    repeat' (first | refine ZV ?_ | refine ZB tm specs_ok ?_ | refine ZH (fun hb => ?_) (fun hb => ?_) | refine ZJ (by conv => lhs; simp [q1, q2, hr, hw, h2, cO, r3, r4, r5, hc, hi, r6]) ?_ | refine ZA (fun hb => ?_) (fun hb => ?_))
    all_goals first
      | (refine ⟨(.bool false, []), ⟨false, rfl, fun hc => by cases hc⟩, Ret.dataR rfl (by conv => lhs; simp) (by conv => lhs; simp) rfl⟩; done)
      | skip
    have hO := hbO (by simpa using hb)
    refine ⟨⟨(k + 1, _), by dsimp only; omega, ?_, by simp [lk_st, h2]⟩, by dsimp only; omega, AS.le_of rfl ⟨rfl, rfl, rfl, rfl, trivial⟩ (fun _ => rfl)⟩
    dsimp only
    rw [ht]
    intro r hr
    rcases List.mem_append.1 hr with hr | hr
    · exact hbd r hr
    · rw [List.mem_singleton] at hr
      exact ⟨⟨t0, t1, ⟨xo, hxo, hO⟩, t3, t4, t5⟩, hr⟩
end Go.Abs.Na
