/- Valid lists of tokens. Conditions: none. -/
import Derived.Test.YtbndcamifghfaaaNa4
namespace Go.Abs.Na
open Go Go.Proofs Go.Abs
set_option maxRecDepth 100000
set_option maxHeartbeats 4000000
set_option linter.unusedSimpArgs false
set_option linter.unusedVariables false
attribute [local simp] instA
noncomputable def good (l : List Tok) (j : Nat) : Bool := match l[j]? with
  | none => true
  | some t => fineR t && match j with
    | 0 => true
    | i + 1 => match l[i]? with
      | some s => decide (s.id < t.id)
      | none => true
noncomputable def valid (nd : Int) (l : List Tok) : Bool := (List.range l.length).all (good l) && okN nd
theorem valid_no {nd : Int} {l : List Tok} {k : Nat} (h : k < l.length) (hg : good l k = false) : valid nd l = false := by
  unfold valid
  have : (List.range l.length).all (good l) = false := by
    rw [List.all_eq_false]
    exact ⟨k, List.mem_range.2 h, by simp [hg]⟩
  rw [this, Bool.false_and]
theorem valid_yes {nd : Int} {l : List Tok} (h : ∀ k, k < l.length → good l k = true) : valid nd l = okN nd := by
  unfold valid
  have : (List.range l.length).all (good l) = true := by
    rw [List.all_eq_true]
    exact fun k hk => h k (List.mem_range.1 hk)
  rw [this, Bool.true_and]
noncomputable def vaS : SpecFn := mkS (fun d : Tks => [d.v]) fun d => (.bool (valid d.node d.toks), [])
theorem vaS_eq (d : Tks) : vaS [d.v] [] = some (.bool (valid d.node d.toks), []) :=
  mkS_eq (enc := fun d : Tks => [d.v]) (fun x y h => by
    simp only [List.cons.injEq, and_true] at h
    cases Tks.v_inj h
    rfl) d
theorem toS_eqI (d : Tok) : toS fineI [.agg d.c] [] = some (.bool (fineR d), []) := by rw [toS_eq, fineI_eq]
noncomputable def vap_specs : NL Spec := [(151, ⟨1, toS fineI⟩), (91, ⟨1, boS okN⟩)]
theorem vap_specs_ok : ∀ p ∈ vap_specs, FnC Try.prog p.1 p.2.fn := by
  simp only [vap_specs, List.mem_cons, List.not_mem_nil, or_false]
  rintro p (rfl | rfl)
  · exact fn_ok
  · exact no1_ok
attribute [local simp] vap_specs
theorem vap_ok : FnC Try.prog 69 vaS := by
  refine FnC.walk 69 (fn := Try.f69) Try.func69 rfl (by kernel_rfl) fun d => ?_
  obtain ⟨nd, l, hl⟩ := d
  have cn := boS_eq okN nd
  change W _ (Ret _ _ (.bool (valid nd l)) []) _ _ ⟨36, [(0, .agg [.int .i64 nd, .list 41 (l.map Tok.c)])], []⟩
  have cap : l.length ≤ 9223372036854775807 := by have := capT (n := l.length) (by omega); exact this
  repeat (first | refine ZS ?_ | refine ZK tm vap_specs_ok rfl (by conv => lhs; simp [cap]) fun _ => ?_ | refine ZL tm vap_specs_ok rfl (by conv => lhs; simp [cap]) fun _ => ?_)
  refine W.loop rfl (ι := { q : Nat × NL ABlk // q.1 ≤ l.length ∧ (∀ j, j < q.1 → good l j = true) ∧ lk q.2 32 = some { gen := 1, kind := 2, elem := 69, size := 2, inl := false, rows := [[.int .i64 nd, .list 41 (l.map Tok.c)]] } })
    (fun q => ⟨36, [(1, .ptr 32 1 0 0), (6, .list 41 (l.map Tok.c)), (7, .int .i64 l.length), (8, .int .i64 (q.1.1 : Nat))], q.1.2⟩) (fun q => l.length - q.1.1)
    ⟨(0, _), by simp, fun j hj => absurd hj (by simp), rfl⟩ (AS.le_of rfl ⟨rfl, rfl, rfl, rfl, trivial⟩ (fun _ => rfl)) ?_
  rintro ⟨⟨k, h⟩, hk, hg, h1⟩
  dsimp only at hk hg h1 ⊢
  by_cases hk2 : k = l.length
  · subst hk2
    rw [valid_yes hg]
    repeat (first | refine ZS ?_ | refine ZK tm vap_specs_ok rfl (by conv => lhs; simp [h1, cn]) fun _ => ?_ | refine ZL tm vap_specs_ok rfl (by conv => lhs; simp [h1, cn]) fun _ => ?_)
    first | exact Ret.dataR rfl (by conv => lhs; simp) (by conv => lhs; simp) (by first | rfl | simp [inlT, inlV]) | fail "no return here"
  · have hlt : k < l.length := by omega
    obtain ⟨t, hr⟩ := get_lt hlt
    have hm : (l.map Tok.c)[k]? = some t.c := by rw [List.getElem?_map, hr]; rfl
    have q1 : (k : Int) < l.length := by omega
    have q2 : ¬ l.length ≤ k := by omega
    have hw : IntKind.i64.wrap ((k : Int) + 1) = ((k + 1 : Nat) : Int) := w64 (by omega) (by omega)
    have cf := toS_eqI t
    obtain ⟨a1, a2, o, a3, a4, a5⟩ := t
    simp only [Tok.c] at cf
    cases hf : fineR ⟨a1, a2, o, a3, a4, a5⟩ with
    | false =>
      rw [hf] at cf
      rw [valid_no hlt (by simp [good, hr, hf])]
      repeat (first | refine ZS ?_ | refine ZK tm vap_specs_ok rfl (by conv => lhs; simp [q1, q2, hm, h1, cf]) fun _ => ?_ | refine ZL tm vap_specs_ok rfl (by conv => lhs; simp [q1, q2, hm, h1, cf]) fun _ => ?_)
      first | exact Ret.dataR rfl (by conv => lhs; simp) (by conv => lhs; simp) (by first | rfl | simp [inlT, inlV]) | fail "no return here"
    | true =>
      rw [hf] at cf
      by_cases hz : k = 0
      · have hgk : good l k = true := by subst hz; simp [good, hr, hf]
        have hgn : ∀ j, j < k + 1 → good l j = true := fun j hj => by
          have h0 : j = k := by omega
          subst h0
          exact hgk
        have q5 : ¬ (0 : Int) < (k : Int) := by omega
        have q6 : ¬ 0 < k := by omega
        repeat (first | refine ZS ?_ | refine ZK tm vap_specs_ok rfl (by conv => lhs; simp [q1, q2, q5, q6, hm, h1, cf, hw]) fun _ => ?_ | refine ZL tm vap_specs_ok rfl (by conv => lhs; simp [q1, q2, q5, q6, hm, h1, cf, hw]) fun _ => ?_)
        exact ⟨⟨(k + 1, _), hlt, hgn, by simp [lk_st, h1]⟩, by dsimp only; omega, AS.le_of rfl ⟨rfl, rfl, rfl, rfl, trivial⟩ (fun _ => rfl)⟩
      · obtain ⟨j, hj⟩ : ∃ j, k = j + 1 := ⟨k - 1, by omega⟩
        obtain ⟨s, hs⟩ := get_lt (l := l) (i := j) (by omega)
        have hms : (l.map Tok.c)[j]? = some s.c := by rw [List.getElem?_map, hs]; rfl
        have q3 : ¬ l.length ≤ j := by omega
        have q4 : (0 : Int) < (k : Int) := by omega
        have q4' : 0 < k := by omega
        have hd : IntKind.i64.wrap ((k : Int) - 1) = (j : Int) := by rw [w64 (by omega) (by omega)]; omega
        have q1' : (j : Int) < l.length := by omega
        obtain ⟨b1, b2, p, b3, b4, b5⟩ := s
        by_cases hc : b1 < a1
        · have hgk : good l k = true := by subst hj; simp [good, hr, hf, hs, hc]
          have hc2 : ¬ a1 ≤ b1 := by omega
          have hgn : ∀ i, i < k + 1 → good l i = true := fun i hi => by
            by_cases e : i = k
            · subst e
              exact hgk
            · exact hg i (by omega)
          repeat (first | refine ZS ?_ | refine ZK tm vap_specs_ok rfl (by conv => lhs; simp [q1, q1', q2, q3, q4, q4', hm, hms, h1, cf, hw, hd, hc2]) fun _ => ?_ | refine ZL tm vap_specs_ok rfl (by conv => lhs; simp [q1, q1', q2, q3, q4, q4', hm, hms, h1, cf, hw, hd, hc2]) fun _ => ?_)
          exact ⟨⟨(k + 1, _), hlt, hgn, by simp [lk_st, h1]⟩, by dsimp only; omega, AS.le_of rfl ⟨rfl, rfl, rfl, rfl, trivial⟩ (fun _ => rfl)⟩
        · rw [valid_no hlt (by subst hj; simp [good, hr, hf, hs, hc])]
          have hc2 : a1 ≤ b1 := by omega
          repeat (first | refine ZS ?_ | refine ZK tm vap_specs_ok rfl (by conv => lhs; simp [q1, q1', q2, q3, q4, q4', hm, hms, h1, cf, hw, hd, hc2]) fun _ => ?_ | refine ZL tm vap_specs_ok rfl (by conv => lhs; simp [q1, q1', q2, q3, q4, q4', hm, hms, h1, cf, hw, hd, hc2]) fun _ => ?_)
          first | exact Ret.dataR rfl (by conv => lhs; simp) (by conv => lhs; simp) (by first | rfl | simp [inlT, inlV]) | fail "no return here"
noncomputable def var_specs : NL Spec := [(157, ⟨1, toS fineR⟩), (95, ⟨1, boS okN⟩)]
theorem var_specs_ok : ∀ p ∈ var_specs, FnC Try.prog p.1 p.2.fn := by
  simp only [var_specs, List.mem_cons, List.not_mem_nil, or_false]
  rintro p (rfl | rfl)
  · exact fr_ok
  · exact no2_ok
attribute [local simp] var_specs
theorem var_ok : FnC Try.prog 78 vaS := by
  refine FnC.walk 78 (fn := Try.f78) Try.func78 rfl (by kernel_rfl) fun d => ?_
  obtain ⟨nd, l, hl⟩ := d
  have cn := boS_eq okN nd
  change W _ (Ret _ _ (.bool (valid nd l)) []) _ _ ⟨36, [(0, .agg [.int .i64 nd, .list 41 (l.map Tok.c)])], []⟩
  have cap : l.length ≤ 9223372036854775807 := by have := capT (n := l.length) (by omega); exact this
  repeat (first | refine ZS ?_ | refine ZK tm var_specs_ok rfl (by conv => lhs; simp [cap]) fun _ => ?_ | refine ZL tm var_specs_ok rfl (by conv => lhs; simp [cap]) fun _ => ?_)
  refine W.loop rfl (ι := { q : Nat × NL ABlk // q.1 ≤ l.length ∧ (∀ j, j < q.1 → good l j = true) ∧ lk q.2 32 = some { gen := 1, kind := 2, elem := 69, size := 2, inl := false, rows := [[.int .i64 nd, .list 41 (l.map Tok.c)]] } })
    (fun q => ⟨36, [(1, .ptr 32 1 0 0), (6, .list 41 (l.map Tok.c)), (7, .int .i64 l.length), (8, .int .i64 (q.1.1 : Nat))], q.1.2⟩) (fun q => l.length - q.1.1)
    ⟨(0, _), by simp, fun j hj => absurd hj (by simp), rfl⟩ (AS.le_of rfl ⟨rfl, rfl, rfl, rfl, trivial⟩ (fun _ => rfl)) ?_
  rintro ⟨⟨k, h⟩, hk, hg, h1⟩
  dsimp only at hk hg h1 ⊢
  by_cases hk2 : k = l.length
  · subst hk2
    rw [valid_yes hg]
    repeat (first | refine ZS ?_ | refine ZK tm var_specs_ok rfl (by conv => lhs; simp [h1, cn]) fun _ => ?_ | refine ZL tm var_specs_ok rfl (by conv => lhs; simp [h1, cn]) fun _ => ?_)
    first | exact Ret.dataR rfl (by conv => lhs; simp) (by conv => lhs; simp) (by first | rfl | simp [inlT, inlV]) | fail "no return here"
  · have hlt : k < l.length := by omega
    obtain ⟨t, hr⟩ := get_lt hlt
    have hm : (l.map Tok.c)[k]? = some t.c := by rw [List.getElem?_map, hr]; rfl
    have q1 : (k : Int) < l.length := by omega
    have q2 : ¬ l.length ≤ k := by omega
    have hw : IntKind.i64.wrap ((k : Int) + 1) = ((k + 1 : Nat) : Int) := w64 (by omega) (by omega)
    have cf := toS_eq fineR t
    obtain ⟨a1, a2, o, a3, a4, a5⟩ := t
    simp only [Tok.c] at cf
    cases hf : fineR ⟨a1, a2, o, a3, a4, a5⟩ with
    | false =>
      rw [hf] at cf
      rw [valid_no hlt (by simp [good, hr, hf])]
      repeat (first | refine ZS ?_ | refine ZK tm var_specs_ok rfl (by conv => lhs; simp [q1, q2, hm, h1, cf]) fun _ => ?_ | refine ZL tm var_specs_ok rfl (by conv => lhs; simp [q1, q2, hm, h1, cf]) fun _ => ?_)
      first | exact Ret.dataR rfl (by conv => lhs; simp) (by conv => lhs; simp) (by first | rfl | simp [inlT, inlV]) | fail "no return here"
    | true =>
      rw [hf] at cf
      by_cases hz : k = 0
      · have hgk : good l k = true := by subst hz; simp [good, hr, hf]
        have hgn : ∀ j, j < k + 1 → good l j = true := fun j hj => by
          have h0 : j = k := by omega
          subst h0
          exact hgk
        have q5 : ¬ (0 : Int) < (k : Int) := by omega
        have q6 : ¬ 0 < k := by omega
        repeat (first | refine ZS ?_ | refine ZK tm var_specs_ok rfl (by conv => lhs; simp [q1, q2, q5, q6, hm, h1, cf, hw]) fun _ => ?_ | refine ZL tm var_specs_ok rfl (by conv => lhs; simp [q1, q2, q5, q6, hm, h1, cf, hw]) fun _ => ?_)
        exact ⟨⟨(k + 1, _), hlt, hgn, by simp [lk_st, h1]⟩, by dsimp only; omega, AS.le_of rfl ⟨rfl, rfl, rfl, rfl, trivial⟩ (fun _ => rfl)⟩
      · obtain ⟨j, hj⟩ : ∃ j, k = j + 1 := ⟨k - 1, by omega⟩
        obtain ⟨s, hs⟩ := get_lt (l := l) (i := j) (by omega)
        have hms : (l.map Tok.c)[j]? = some s.c := by rw [List.getElem?_map, hs]; rfl
        have q3 : ¬ l.length ≤ j := by omega
        have q4 : (0 : Int) < (k : Int) := by omega
        have q4' : 0 < k := by omega
        have hd : IntKind.i64.wrap ((k : Int) - 1) = (j : Int) := by rw [w64 (by omega) (by omega)]; omega
        have q1' : (j : Int) < l.length := by omega
        obtain ⟨b1, b2, p, b3, b4, b5⟩ := s
        by_cases hc : b1 < a1
        · have hgk : good l k = true := by subst hj; simp [good, hr, hf, hs, hc]
          have hc2 : ¬ a1 ≤ b1 := by omega
          have hgn : ∀ i, i < k + 1 → good l i = true := fun i hi => by
            by_cases e : i = k
            · subst e
              exact hgk
            · exact hg i (by omega)
          repeat (first | refine ZS ?_ | refine ZK tm var_specs_ok rfl (by conv => lhs; simp [q1, q1', q2, q3, q4, q4', hm, hms, h1, cf, hw, hd, hc2]) fun _ => ?_ | refine ZL tm var_specs_ok rfl (by conv => lhs; simp [q1, q1', q2, q3, q4, q4', hm, hms, h1, cf, hw, hd, hc2]) fun _ => ?_)
          exact ⟨⟨(k + 1, _), hlt, hgn, by simp [lk_st, h1]⟩, by dsimp only; omega, AS.le_of rfl ⟨rfl, rfl, rfl, rfl, trivial⟩ (fun _ => rfl)⟩
        · rw [valid_no hlt (by subst hj; simp [good, hr, hf, hs, hc])]
          have hc2 : a1 ≤ b1 := by omega
          repeat (first | refine ZS ?_ | refine ZK tm var_specs_ok rfl (by conv => lhs; simp [q1, q1', q2, q3, q4, q4', hm, hms, h1, cf, hw, hd, hc2]) fun _ => ?_ | refine ZL tm var_specs_ok rfl (by conv => lhs; simp [q1, q1', q2, q3, q4, q4', hm, hms, h1, cf, hw, hd, hc2]) fun _ => ?_)
          first | exact Ret.dataR rfl (by conv => lhs; simp) (by conv => lhs; simp) (by first | rfl | simp [inlT, inlV]) | fail "no return here"
end Go.Abs.Na
namespace Go.Abs.Na
open Go Go.Proofs Go.Abs
set_option maxRecDepth 100000
set_option maxHeartbeats 4000000
set_option linter.unusedSimpArgs false
set_option linter.unusedVariables false
attribute [local simp] instA
attribute [-simp] mkv
attribute [local simp] mkv_hd hdA_cons hdA_ob hdA_ob'
/-- Tokens and an error. -/
def rT (n : Int) (l : List Tok) (e : Int) : AV := .tup [.agg [.int .i64 n, .list 41 (l.map Tok.c)], .int .i64 e]
theorem tksLeafs : leafs Try.prog 69 = [3, 67] := lf69
theorem tks_nrmV (n : Int) (l : List Tok) : nrmV Try.prog 69 (.agg [.int .i64 n, .list 41 (l.map Tok.c)]) = .agg [.int .i64 n, .list 41 (l.map Tok.c)] := tks_nrmR n l
theorem tks_nrmV0 (n : Int) : nrmV Try.prog 69 (.agg [.int .i64 n, .nils]) = .agg [.int .i64 n, .list 41 ([].map Tok.c)] := tks_nrm0 n
theorem rT_nrm (n : Int) (l : List Tok) (e : Int) : nrmR Try.prog [69, 51] (rT n l e) = rT n l e := by
  simp only [rT, nrmR, nrmL, tks_nrmV]
  simp only [nrmV]
theorem rT_nrm0 (e : Int) : nrmR Try.prog [69, 51] (.tup [.agg [.int .i64 0, .nils], .int .i64 e]) = rT 0 [] e := by
  simp only [rT, nrmR, nrmL, tks_nrmV0]
  simp only [nrmV]
noncomputable def pinL (d : Tks) (id m : Int) : Int × List Tok × Int :=
  if valid d.node d.toks = false then (0, [], 1) else if okM m = false then (0, [], 2) else
    let t := (fnd id d.toks).getD (tok0 id)
    if t.mode < m then (0, [], 6) else (d.node, put { t with pin := true } d.toks, 0)
noncomputable def pinS : SpecFn := mkS (fun d : Tks × Int × Int => [d.1.v, .int .u64 d.2.1, .int .i64 d.2.2]) fun d => (rT (pinL d.1 d.2.1 d.2.2).1 (pinL d.1 d.2.1 d.2.2).2.1 (pinL d.1 d.2.1 d.2.2).2.2, [])
theorem pinS_eq (d : Tks) (id m : Int) : pinS [d.v, .int .u64 id, .int .i64 m] [] = some (rT (pinL d id m).1 (pinL d id m).2.1 (pinL d id m).2.2, []) :=
  mkS_eq (enc := fun d : Tks × Int × Int => [d.1.v, .int .u64 d.2.1, .int .i64 d.2.2]) (fun x y h => by
    obtain ⟨a, b, c⟩ := x
    obtain ⟨a', b', c'⟩ := y
    simp only [List.cons.injEq, AV.int.injEq, true_and, and_true] at h
    obtain ⟨h, rfl, rfl⟩ := h
    cases Tks.v_inj h
    rfl) (d, id, m)
noncomputable def pr_specs : NL Spec := [(78, ⟨1, vaS⟩), (79, ⟨1, boS okM⟩), (80, ⟨1, fndS⟩), (81, ⟨1, putS⟩)]
theorem pr_specs_ok : ∀ p ∈ pr_specs, FnC Try.prog p.1 p.2.fn := by
  simp only [pr_specs, List.mem_cons, List.not_mem_nil, or_false]
  rintro p (rfl | rfl | rfl | rfl)
  · exact var_ok
  · exact mo2_ok
  · exact fnd_ok
  · exact put_ok
attribute [local simp] pr_specs
theorem pinr_ok : FnC Try.prog 28 pinS := by
  refine FnC.walkN 28 (fn := Try.f28) [69, 51] Try.func28 rfl (by kernel_rfl) (fun d => ?_) (fun d => ⟨_, rT_nrm _ _ _⟩)
  obtain ⟨d, id, m⟩ := d
  have cv := vaS_eq d
  have cm := boS_eq okM m
  have cf := fndS_eq d id
  have cp := putS_eq d { (fnd id d.toks).getD (tok0 id) with pin := true }
  simp only [Tks.v] at cv cf cp
  change W _ (RetNf _ _ _ (rT (pinL d id m).1 (pinL d id m).2.1 (pinL d id m).2.2) []) _ _ ⟨29, [(0, .agg [.int .i64 d.node, .list 41 (d.toks.map Tok.c)]), (1, .int .u64 id), (2, .int .i64 m)], []⟩
  generalize hR : pinL d id m = R
  unfold pinL at hR
  dsimp only at hR
  generalize put { (fnd id d.toks).getD (tok0 id) with pin := true } d.toks = L at *
  generalize (fnd id d.toks).getD (tok0 id) = t at *
  obtain ⟨a1, a2, o, a3, a4, a5⟩ := t
  obtain ⟨nd, l, hl⟩ := d
  dsimp only [Tok.c] at cv cm cf cp hR ⊢
  generalize valid nd l = va at *
  generalize okM m = om at *
  cases va with
  | false =>
    repeat (first | refine ZS ?_ | refine ZK tm pr_specs_ok rfl (by conv => lhs; simp [cv]) fun _ => ?_ | refine ZL tm pr_specs_ok rfl (by conv => lhs; simp [cv]) fun _ => ?_)
    rw [if_pos rfl] at hR
    subst hR
    refine ⟨_, ?_, rT_nrm0 1⟩
    first | exact Ret.dataR rfl (by conv => lhs; simp) (by conv => lhs; simp) (by first | rfl | simp [inlT, inlV]) | fail "no return here"
  | true =>
    rw [if_neg (by decide)] at hR
    cases om with
    | false =>
      repeat (first | refine ZS ?_ | refine ZK tm pr_specs_ok rfl (by conv => lhs; simp [cv, cm]) fun _ => ?_ | refine ZL tm pr_specs_ok rfl (by conv => lhs; simp [cv, cm]) fun _ => ?_)
      rw [if_pos rfl] at hR
      subst hR
      refine ⟨_, ?_, rT_nrm0 2⟩
      first | exact Ret.dataR rfl (by conv => lhs; simp) (by conv => lhs; simp) (by first | rfl | simp [inlT, inlV]) | fail "no return here"
    | true =>
      rw [if_neg (by decide)] at hR
      by_cases hlt : a2 < m
      · rw [if_pos hlt] at hR
        repeat (first | refine ZS ?_ | refine ZK tm pr_specs_ok rfl (by conv => lhs; simp [cv, cm, cf, hlt]) fun _ => ?_ | refine ZL tm pr_specs_ok rfl (by conv => lhs; simp [cv, cm, cf, hlt]) fun _ => ?_)
        subst hR
        refine ⟨_, ?_, rT_nrm0 6⟩
        first | exact Ret.dataR rfl (by conv => lhs; simp) (by conv => lhs; simp) (by first | rfl | simp [inlT, inlV]) | fail "no return here"
      · rw [if_neg hlt] at hR
        repeat (first | refine ZS ?_ | refine ZK tm pr_specs_ok rfl (by conv => lhs; simp [cv, cm, cf, cp, hlt]) fun _ => ?_ | refine ZL tm pr_specs_ok rfl (by conv => lhs; simp [cv, cm, cf, cp, hlt]) fun _ => ?_)
        subst hR
        refine ⟨_, ?_, rT_nrm nd L 0⟩
        simp only [rT]
        first | exact Ret.dataR rfl (by conv => lhs; simp) (by conv => lhs; simp) (by first | rfl | simp [inlT, inlV]) | fail "no return here"
/-! ### Putting an object -/
noncomputable def putoL (d : Tks) (id : Int) (o : Ob) : Int × List Tok × Int :=
  if valid d.node d.toks = false then (0, [], 1) else
    let t := (fnd id d.toks).getD (tok0 id)
    if t.mode = 2 then if zO? o = false ∧ oid o ≠ id then (0, [], 10) else (d.node, put { t with obj := o } d.toks, 0) else (0, [], 8)
noncomputable def putoS : SpecFn := mkS (fun d : Tks × Int × Ob => [d.1.v, .int .u64 d.2.1, .agg d.2.2.cells]) fun d => (rT (putoL d.1 d.2.1 d.2.2).1 (putoL d.1 d.2.1 d.2.2).2.1 (putoL d.1 d.2.1 d.2.2).2.2, [])
theorem putoS_eq (d : Tks) (id : Int) (o : Ob) : putoS [d.v, .int .u64 id, .agg o.cells] [] = some (rT (putoL d id o).1 (putoL d id o).2.1 (putoL d id o).2.2, []) :=
  mkS_eq (enc := fun d : Tks × Int × Ob => [d.1.v, .int .u64 d.2.1, .agg d.2.2.cells]) (fun x y h => by
    obtain ⟨a, b, c⟩ := x
    obtain ⟨a', b', c'⟩ := y
    simp only [List.cons.injEq, AV.int.injEq, AV.agg.injEq, true_and, and_true] at h
    obtain ⟨h, rfl, h2⟩ := h
    cases Tks.v_inj h
    cases Td.ext h2
    rfl) (d, id, o)
noncomputable def po_specs : NL Spec := [(78, ⟨1, vaS⟩), (80, ⟨1, fndS⟩), (84, ⟨1, zeS⟩), (81, ⟨1, putS⟩)]
theorem po_specs_ok : ∀ p ∈ po_specs, FnC Try.prog p.1 p.2.fn := by
  simp only [po_specs, List.mem_cons, List.not_mem_nil, or_false]
  rintro p (rfl | rfl | rfl | rfl)
  · exact var_ok
  · exact fnd_ok
  · exact zer_ok
  · exact put_ok
attribute [local simp] po_specs
theorem putor_ok : FnC Try.prog 31 putoS := by
  refine FnC.walkN 31 (fn := Try.f31) [69, 51] Try.func31 rfl (by kernel_rfl) (fun d => ?_) (fun d => ⟨_, rT_nrm _ _ _⟩)
  obtain ⟨d, id, q⟩ := d
  have cv := vaS_eq d
  have cz := zeS_eq q
  have cf := fndS_eq d id
  have cp := putS_eq d { (fnd id d.toks).getD (tok0 id) with obj := q }
  simp only [Tks.v] at cv cf cp
  change W _ (RetNf _ _ _ (rT (putoL d id q).1 (putoL d id q).2.1 (putoL d id q).2.2) []) _ _ ⟨35, [(0, .agg [.int .i64 d.node, .list 41 (d.toks.map Tok.c)]), (1, .int .u64 id), (2, .agg q.cells)], []⟩
  generalize hR : putoL d id q = R
  unfold putoL at hR
  dsimp only at hR
  generalize put { (fnd id d.toks).getD (tok0 id) with obj := q } d.toks = L at *
  generalize (fnd id d.toks).getD (tok0 id) = t at *
  obtain ⟨a1, a2, o, a3, a4, a5⟩ := t
  obtain ⟨nd, l, hl⟩ := d
  dsimp only [Tok.c] at cv cz cf cp hR ⊢
  generalize valid nd l = va at *
  generalize zO? q = z at *
  generalize hqi : oid q = qi at *
  cases va with
  | false =>
    repeat (first | refine ZS ?_ | refine ZK tm po_specs_ok rfl (by conv => lhs; simp [cv]) fun _ => ?_ | refine ZL tm po_specs_ok rfl (by conv => lhs; simp [cv]) fun _ => ?_)
    rw [if_pos rfl] at hR
    subst hR
    refine ⟨_, ?_, rT_nrm0 1⟩
    first | exact Ret.dataR rfl (by conv => lhs; simp) (by conv => lhs; simp) (by first | rfl | simp [inlT, inlV]) | fail "no return here"
  | true =>
    rw [if_neg (by decide)] at hR
    by_cases h2 : a2 = 2
    · rw [if_pos h2] at hR
      have e2 : (a2 != 2) = false := by simp [h2]
      cases z with
      | true =>
        rw [if_neg (by simp)] at hR
        repeat (first | refine ZS ?_ | refine ZK tm po_specs_ok rfl (by conv => lhs; simp [cv, cz, cf, cp, e2]) fun _ => ?_ | refine ZL tm po_specs_ok rfl (by conv => lhs; simp [cv, cz, cf, cp, e2]) fun _ => ?_)
        subst hR
        refine ⟨_, ?_, rT_nrm nd L 0⟩
        simp only [rT]
        first | exact Ret.dataR rfl (by conv => lhs; simp) (by conv => lhs; simp) (by first | rfl | simp [inlT, inlV]) | fail "no return here"
      | false =>
        by_cases h3 : qi = id
        · have e3 : (qi != id) = false := by simp [h3]
          rw [if_neg (by simp [h3])] at hR
          repeat (first | refine ZS ?_ | refine ZK tm po_specs_ok rfl (by conv => lhs; simp [cv, cz, cf, cp, e2, hqi, e3]) fun _ => ?_ | refine ZL tm po_specs_ok rfl (by conv => lhs; simp [cv, cz, cf, cp, e2, hqi, e3]) fun _ => ?_)
          subst hR
          refine ⟨_, ?_, rT_nrm nd L 0⟩
          simp only [rT]
          first | exact Ret.dataR rfl (by conv => lhs; simp) (by conv => lhs; simp) (by first | rfl | simp [inlT, inlV]) | fail "no return here"
        · have e3 : (qi != id) = true := by simp [h3]
          rw [if_pos ⟨rfl, h3⟩] at hR
          repeat (first | refine ZS ?_ | refine ZK tm po_specs_ok rfl (by conv => lhs; simp [cv, cz, cf, cp, e2, hqi, e3]) fun _ => ?_ | refine ZL tm po_specs_ok rfl (by conv => lhs; simp [cv, cz, cf, cp, e2, hqi, e3]) fun _ => ?_)
          subst hR
          refine ⟨_, ?_, rT_nrm0 10⟩
          first | exact Ret.dataR rfl (by conv => lhs; simp) (by conv => lhs; simp) (by first | rfl | simp [inlT, inlV]) | fail "no return here"
    · rw [if_neg h2] at hR
      have e2 : (a2 != 2) = true := by simp [h2]
      repeat (first | refine ZS ?_ | refine ZK tm po_specs_ok rfl (by conv => lhs; simp [cv, cf, e2]) fun _ => ?_ | refine ZL tm po_specs_ok rfl (by conv => lhs; simp [cv, cf, e2]) fun _ => ?_)
      subst hR
      refine ⟨_, ?_, rT_nrm0 8⟩
      first | exact Ret.dataR rfl (by conv => lhs; simp) (by conv => lhs; simp) (by first | rfl | simp [inlT, inlV]) | fail "no return here"
end Go.Abs.Na
namespace Go.Abs.Na
open Go Go.Proofs Go.Abs
set_option maxRecDepth 100000
set_option maxHeartbeats 4000000
set_option linter.unusedSimpArgs false
set_option linter.unusedVariables false
attribute [local simp] instA binOpA
def sp0 (id : Int) : Int := IntKind.i64.wrap (id.fdiv (2 ^ min 56 IntKind.u64.bits))
def sp1 (id : Int) : Int := IntKind.i64.wrap (IntKind.u64.wrap ↑((id.fdiv (2 ^ min 40 IntKind.u64.bits) % 2 ^ IntKind.u64.bits).toNat &&& 65535 % 2 ^ IntKind.u64.bits))
def sp2 (id : Int) : Int := IntKind.i64.wrap (IntKind.u64.wrap ↑((id % 2 ^ IntKind.u64.bits).toNat &&& 1099511627775 % 2 ^ IntKind.u64.bits))
noncomputable def spS : SpecFn := mkS (fun d : Int => [.int .u64 d]) fun d => (.tup [.int .i64 (sp0 d), .int .i64 (sp1 d), .int .i64 (sp2 d)], [])
theorem spS_eq (id : Int) : spS [.int .u64 id] [] = some (.tup [.int .i64 (sp0 id), .int .i64 (sp1 id), .int .i64 (sp2 id)], []) :=
  mkS_eq (enc := fun d : Int => [AV.int .u64 d]) (fun x y h => by
    simp only [List.cons.injEq, AV.int.injEq, true_and, and_true] at h
    rw [h]) id
theorem sp_ref : FnC Try.prog 89 spS := by
  refine FnC.walk 89 (fn := Try.f89) Try.func89 rfl (by kernel_rfl) fun id => ?_
  change W _ (Ret _ _ (.tup [.int .i64 (sp0 id), .int .i64 (sp1 id), .int .i64 (sp2 id)]) []) _ _ ⟨15, [(0, .int .u64 id)], []⟩
  repeat (first | refine ZS ?_ | refine ZK tm no_specs rfl (by conv => lhs; simp) fun _ => ?_ | refine ZL tm no_specs rfl (by conv => lhs; simp) fun _ => ?_)
  simp only [sp0, sp1, sp2]
  first | exact Ret.dataR rfl (by conv => lhs; simp) (by conv => lhs; simp) (by first | rfl | simp [inlT, inlV]) | fail "no return here"
theorem sp_id : FnC Try.prog 85 spS := by
  refine FnC.walk 85 (fn := Try.f85) Try.func85 rfl (by kernel_rfl) fun id => ?_
  change W _ (Ret _ _ (.tup [.int .i64 (sp0 id), .int .i64 (sp1 id), .int .i64 (sp2 id)]) []) _ _ ⟨15, [(0, .int .u64 id)], []⟩
  repeat (first | refine ZS ?_ | refine ZK tm no_specs rfl (by conv => lhs; simp) fun _ => ?_ | refine ZL tm no_specs rfl (by conv => lhs; simp) fun _ => ?_)
  simp only [sp0, sp1, sp2]
  first | exact Ret.dataR rfl (by conv => lhs; simp) (by conv => lhs; simp) (by first | rfl | simp [inlT, inlV]) | fail "no return here"
attribute [-simp] mkv
attribute [local simp] mkv_hd hdA_cons hdA_ob hdA_ob'
noncomputable def mkeL (d : Tks) (o : Ob) : Int × List Tok × Int :=
  if valid d.node d.toks = false then (0, [], 1) else if oid o = 0 then (0, [], 2) else if sp0 (oid o) ≠ d.node then (0, [], 10) else
    let t := (fnd (oid o) d.toks).getD (tok0 (oid o))
    if t.mode ≠ 0 then (0, [], 7) else if t.want ≠ 0 then (0, [], 7) else (d.node, put ⟨oid o, 2, o, 0, false, false⟩ d.toks, 0)
noncomputable def mkeS : SpecFn := mkS (fun d : Tks × Ob => [d.1.v, .agg d.2.cells]) fun d => (rT (mkeL d.1 d.2).1 (mkeL d.1 d.2).2.1 (mkeL d.1 d.2).2.2, [])
theorem mkeS_eq (d : Tks) (o : Ob) : mkeS [d.v, .agg o.cells] [] = some (rT (mkeL d o).1 (mkeL d o).2.1 (mkeL d o).2.2, []) :=
  mkS_eq (enc := fun d : Tks × Ob => [d.1.v, .agg d.2.cells]) (fun x y h => by
    obtain ⟨a, c⟩ := x
    obtain ⟨a', c'⟩ := y
    simp only [List.cons.injEq, AV.agg.injEq, and_true] at h
    obtain ⟨h, h2⟩ := h
    cases Tks.v_inj h
    cases Td.ext h2
    rfl) (d, o)
noncomputable def mr_specs : NL Spec := [(78, ⟨1, vaS⟩), (80, ⟨1, fndS⟩), (89, ⟨1, spS⟩), (81, ⟨1, putS⟩)]
theorem mr_specs_ok : ∀ p ∈ mr_specs, FnC Try.prog p.1 p.2.fn := by
  simp only [mr_specs, List.mem_cons, List.not_mem_nil, or_false]
  rintro p (rfl | rfl | rfl | rfl)
  · exact var_ok
  · exact fnd_ok
  · exact sp_ref
  · exact put_ok
attribute [local simp] mr_specs
theorem mker_ok : FnC Try.prog 33 mkeS := by
  refine FnC.walkN 33 (fn := Try.f33) [69, 51] Try.func33 rfl (by kernel_rfl) (fun d => ?_) (fun d => ⟨_, rT_nrm _ _ _⟩)
  obtain ⟨d, q⟩ := d
  have cv := vaS_eq d
  have cs := spS_eq (oid q)
  have cf := fndS_eq d (oid q)
  have cp := putS_eq d ⟨oid q, 2, q, 0, false, false⟩
  simp only [Tks.v] at cv cf cp
  change W _ (RetNf _ _ _ (rT (mkeL d q).1 (mkeL d q).2.1 (mkeL d q).2.2) []) _ _ ⟨49, [(0, .agg [.int .i64 d.node, .list 41 (d.toks.map Tok.c)]), (1, .agg q.cells)], []⟩
  generalize hR : mkeL d q = R
  unfold mkeL at hR
  dsimp only at hR
  generalize put ⟨oid q, 2, q, 0, false, false⟩ d.toks = L at *
  generalize (fnd (oid q) d.toks).getD (tok0 (oid q)) = t at *
  obtain ⟨a1, a2, o, a3, a4, a5⟩ := t
  obtain ⟨nd, l, hl⟩ := d
  dsimp only [Tok.c] at cv cf cp hR ⊢
  generalize valid nd l = va at *
  generalize hqi : oid q = qi at *
  generalize sp0 qi = s0 at *
  generalize sp1 qi = s1 at *
  generalize sp2 qi = s2 at *
  cases va with
  | false =>
    repeat (first | refine ZS ?_ | refine ZK tm mr_specs_ok rfl (by conv => lhs; simp [cv]) fun _ => ?_ | refine ZL tm mr_specs_ok rfl (by conv => lhs; simp [cv]) fun _ => ?_)
    rw [if_pos rfl] at hR
    subst hR
    refine ⟨_, ?_, rT_nrm0 1⟩
    first | exact Ret.dataR rfl (by conv => lhs; simp) (by conv => lhs; simp) (by first | rfl | simp [inlT, inlV]) | fail "no return here"
  | true =>
    rw [if_neg (by decide)] at hR
    by_cases h2 : qi = 0
    · rw [if_pos h2] at hR
      have e2 : (qi == 0) = true := by simp [h2]
      repeat (first | refine ZS ?_ | refine ZK tm mr_specs_ok rfl (by conv => lhs; simp [cv, hqi, e2]) fun _ => ?_ | refine ZL tm mr_specs_ok rfl (by conv => lhs; simp [cv, hqi, e2]) fun _ => ?_)
      subst hR
      refine ⟨_, ?_, rT_nrm0 2⟩
      first | exact Ret.dataR rfl (by conv => lhs; simp) (by conv => lhs; simp) (by first | rfl | simp [inlT, inlV]) | fail "no return here"
    · rw [if_neg h2] at hR
      have e2 : (qi == 0) = false := by simp [h2]
      by_cases h3 : s0 = nd
      · have e3 : (s0 != nd) = false := by simp [h3]
        rw [if_neg (by simp [h3])] at hR
        by_cases h4 : a2 = 0
        · have e4 : (a2 != 0) = false := by simp [h4]
          rw [if_neg (by simp [h4])] at hR
          by_cases h5 : a3 = 0
          · have e5 : (a3 != 0) = false := by simp [h5]
            rw [if_neg (by simp [h5])] at hR
            repeat (first | refine ZS ?_ | refine ZK tm mr_specs_ok rfl (by conv => lhs; simp [cv, cs, cf, cp, hqi, e2, e3, e4, e5]) fun _ => ?_ | refine ZL tm mr_specs_ok rfl (by conv => lhs; simp [cv, cs, cf, cp, hqi, e2, e3, e4, e5]) fun _ => ?_)
            subst hR
            refine ⟨_, ?_, rT_nrm nd L 0⟩
            simp only [rT]
            first | exact Ret.dataR rfl (by conv => lhs; simp) (by conv => lhs; simp) (by first | rfl | simp [inlT, inlV]) | fail "no return here"
          · have e5 : (a3 != 0) = true := by simp [h5]
            rw [if_pos h5] at hR
            repeat (first | refine ZS ?_ | refine ZK tm mr_specs_ok rfl (by conv => lhs; simp [cv, cs, cf, hqi, e2, e3, e4, e5]) fun _ => ?_ | refine ZL tm mr_specs_ok rfl (by conv => lhs; simp [cv, cs, cf, hqi, e2, e3, e4, e5]) fun _ => ?_)
            subst hR
            refine ⟨_, ?_, rT_nrm0 7⟩
            first | exact Ret.dataR rfl (by conv => lhs; simp) (by conv => lhs; simp) (by first | rfl | simp [inlT, inlV]) | fail "no return here"
        · have e4 : (a2 != 0) = true := by simp [h4]
          rw [if_pos h4] at hR
          repeat (first | refine ZS ?_ | refine ZK tm mr_specs_ok rfl (by conv => lhs; simp [cv, cs, cf, hqi, e2, e3, e4]) fun _ => ?_ | refine ZL tm mr_specs_ok rfl (by conv => lhs; simp [cv, cs, cf, hqi, e2, e3, e4]) fun _ => ?_)
          subst hR
          refine ⟨_, ?_, rT_nrm0 7⟩
          first | exact Ret.dataR rfl (by conv => lhs; simp) (by conv => lhs; simp) (by first | rfl | simp [inlT, inlV]) | fail "no return here"
      · have e3 : (s0 != nd) = true := by simp [h3]
        rw [if_pos h3] at hR
        repeat (first | refine ZS ?_ | refine ZK tm mr_specs_ok rfl (by conv => lhs; simp [cv, cs, hqi, e2, e3]) fun _ => ?_ | refine ZL tm mr_specs_ok rfl (by conv => lhs; simp [cv, cs, hqi, e2, e3]) fun _ => ?_)
        subst hR
        refine ⟨_, ?_, rT_nrm0 10⟩
        first | exact Ret.dataR rfl (by conv => lhs; simp) (by conv => lhs; simp) (by first | rfl | simp [inlT, inlV]) | fail "no return here"
end Go.Abs.Na
namespace Go.Abs.Na
open Go Go.Proofs Go.Abs
set_option maxRecDepth 100000
set_option maxHeartbeats 4000000
set_option linter.unusedSimpArgs false
set_option linter.unusedVariables false
attribute [local simp] instA
attribute [-simp] mkv
attribute [local simp] mkv_hd hdA_cons hdA_ob hdA_ob'
/-- A message. -/
structure Msg where
  fr : Int
  to : Int
  kind : Int
  id : Int
  mode : Int
  obj : Ob
  a : Int
  b : Int
  c : Int
  e : Int
@[simp] def Msg.v (m : Msg) : List AV := .int .i64 m.fr :: .int .i64 m.to :: .int .i64 m.kind :: .int .u64 m.id :: .int .i64 m.mode :: (m.obj.cells ++ [.int .u64 m.a, .int .i64 m.b, .int .u64 m.c, .int .i64 m.e])
theorem msgLeafs : leafs Try.prog 50 = 3 :: 3 :: 3 :: 30 :: 3 :: (leafs Try.prog 48 ++ [30, 2, 30, 3]) := by rw [lf50, lf48]; rfl
theorem msg_nrm (m : Msg) : nrmL Try.prog (leafs Try.prog 50) m.v = m.v := by
  rw [msgLeafs]
  simp only [Msg.v, nrmL]
  rw [nrmL_append _ _ _ _ m.obj.len'.symm, m.obj.nrmL]
  simp [nrmL, nrmV]
theorem msg_nrm0 (f t k i m : Int) : nrmL Try.prog (leafs Try.prog 50) (.int .i64 f :: .int .i64 t :: .int .i64 k :: .int .u64 i :: .int .i64 m :: (zO ++ [.int .u64 0, .int .i64 0, .int .u64 0, .int .i64 0])) = (⟨f, t, k, i, m, zOb, 0, 0, 0, 0⟩ : Msg).v := by
  rw [msgLeafs]
  simp only [Msg.v, nrmL]
  rw [nrmL_append _ _ _ _ (by rw [obLeafs]; rfl), zN_eq]
  simp [nrmL, nrmV, zOb]
noncomputable def putN : SpecFn := nS Try.prog [69, 77] putS
theorem putN_eq (d : Tks) (t : Tok) : putN [d.v, .agg t.c] [] = some (.agg [.int .i64 d.node, .list 41 ((put t d.toks).map Tok.c)], []) := by
  rw [putN, nS_eq]
  simp only [nrmL]
  rw [show nrmV Try.prog 69 d.v = d.v from tks_nrmV _ _, show nrmV Try.prog 77 (.agg t.c) = .agg t.c by rw [nrmV, tok_nrm]]
  exact putS_eq d t
theorem putN_eq0 (d : Tks) (id mode want : Int) (pin due : Bool) : putN [d.v, .agg (.int .u64 id :: .int .i64 mode :: (zO ++ [.int .i64 want, .bool pin, .bool due]))] [] = some (.agg [.int .i64 d.node, .list 41 ((put ⟨id, mode, zOb, want, pin, due⟩ d.toks).map Tok.c)], []) := by
  rw [putN, nS_eq]
  simp only [nrmL]
  rw [show nrmV Try.prog 69 d.v = d.v from tks_nrmV _ _, show nrmV Try.prog 77 (.agg (.int .u64 id :: .int .i64 mode :: (zO ++ [.int .i64 want, .bool pin, .bool due]))) = .agg (⟨id, mode, zOb, want, pin, due⟩ : Tok).c by rw [nrmV, tok_nrm0]]
  exact putS_eq d _
theorem putN_ok : FnC Try.prog 81 putN := put_ok.nrm _
/-- Tokens and a message. -/
def rM (n : Int) (l : List Tok) (m : Msg) : AV := .tup [.agg [.int .i64 n, .list 41 (l.map Tok.c)], .agg m.v]
theorem rM_nrm (n : Int) (l : List Tok) (m : Msg) : nrmR Try.prog [69, 50] (rM n l m) = rM n l m := by
  simp only [rM, nrmR, nrmL, tks_nrmV]
  rw [nrmV, msg_nrm]
theorem rM_nrm0 (n : Int) (l : List Tok) (f t k i m : Int) : nrmR Try.prog [69, 50] (.tup [.agg [.int .i64 n, .list 41 (l.map Tok.c)], .agg (.int .i64 f :: .int .i64 t :: .int .i64 k :: .int .u64 i :: .int .i64 m :: (zO ++ [.int .u64 0, .int .i64 0, .int .u64 0, .int .i64 0]))]) = rM n l ⟨f, t, k, i, m, zOb, 0, 0, 0, 0⟩ := by
  simp only [rM, nrmR, nrmL, tks_nrmV]
  rw [nrmV, msg_nrm0]
noncomputable def bckM (nd : Int) (t : Tok) (to : Int) : Msg := ⟨nd, to, 4, t.id, t.mode, if t.mode = 2 then t.obj else zOb, 0, 0, 0, 0⟩
noncomputable def bckT (t : Tok) : Tok := ⟨t.id, 0, zOb, t.want, false, false⟩
noncomputable def bckS : SpecFn := mkS (fun d : Tks × Tok × Int => [d.1.v, .agg d.2.1.c, .int .i64 d.2.2]) fun d => (rM d.1.node (put (bckT d.2.1) d.1.toks) (bckM d.1.node d.2.1 d.2.2), [])
theorem bckS_eq (d : Tks) (t : Tok) (to : Int) : bckS [d.v, .agg t.c, .int .i64 to] [] = some (rM d.node (put (bckT t) d.toks) (bckM d.node t to), []) :=
  mkS_eq (enc := fun d : Tks × Tok × Int => [d.1.v, .agg d.2.1.c, .int .i64 d.2.2]) (fun x y h => by
    obtain ⟨a, b, c⟩ := x
    obtain ⟨a', b', c'⟩ := y
    simp only [List.cons.injEq, AV.int.injEq, AV.agg.injEq, true_and, and_true] at h
    obtain ⟨h, h2, rfl⟩ := h
    cases Tks.v_inj h
    cases Tok.c_inj h2
    rfl) (d, t, to)
noncomputable def br2_specs : NL Spec := [(81, ⟨1, putN⟩)]
theorem br2_specs_ok : ∀ p ∈ br2_specs, FnC Try.prog p.1 p.2.fn := by
  simp only [br2_specs, List.mem_cons, List.not_mem_nil, or_false]
  rintro p rfl
  exact putN_ok
attribute [local simp] br2_specs
theorem bckr_ok : FnC Try.prog 96 bckS := by
  refine FnC.walkN 96 (fn := Try.f96) [69, 50] Try.func96 rfl (by kernel_rfl) (fun d => ?_) (fun d => ⟨_, rM_nrm _ _ _⟩)
  obtain ⟨d, ⟨a1, a2, o, a3, a4, a5⟩, to⟩ := d
  have cp := putN_eq0 d a1 0 a3 false false
  simp only [Tks.v, zO, List.cons_append, List.nil_append] at cp
  change W _ (RetNf _ _ _ (rM d.node (put ⟨a1, 0, zOb, a3, false, false⟩ d.toks) ⟨d.node, to, 4, a1, a2, if a2 = 2 then o else zOb, 0, 0, 0, 0⟩) []) _ _ ⟨31, [(0, .agg [.int .i64 d.node, .list 41 (d.toks.map Tok.c)]), (1, .agg (.int .u64 a1 :: .int .i64 a2 :: (o.cells ++ [.int .i64 a3, .bool a4, .bool a5]))), (2, .int .i64 to)], []⟩
  obtain ⟨nd, l, hl⟩ := d
  dsimp only at cp ⊢
  generalize put ⟨a1, 0, zOb, a3, false, false⟩ l = L at *
  by_cases h2 : a2 = 2
  · have e2 : (a2 == 2) = true := by simp [h2]
    rw [if_pos h2]
    repeat (first | refine ZS ?_ | refine ZK tm br2_specs_ok rfl (by conv => lhs; simp [cp, e2]) fun _ => ?_ | refine ZL tm br2_specs_ok rfl (by conv => lhs; simp [cp, e2]) fun _ => ?_)
    refine ⟨_, ?_, rM_nrm _ _ _⟩
    simp only [rM, Msg.v]
    first | exact Ret.dataR rfl (by conv => lhs; simp) (by conv => lhs; simp) (by first | rfl | simp [inlT, inlV]) | fail "no return here"
  · have e2 : (a2 == 2) = false := by simp [h2]
    rw [if_neg h2]
    repeat (first | refine ZS ?_ | refine ZK tm br2_specs_ok rfl (by conv => lhs; simp [cp, e2]) fun _ => ?_ | refine ZL tm br2_specs_ok rfl (by conv => lhs; simp [cp, e2]) fun _ => ?_)
    refine ⟨_, ?_, rM_nrm0 _ _ _ _ _ _ _⟩
    simp only [zO, List.cons_append, List.nil_append]
    first | exact Ret.dataR rfl (by conv => lhs; simp) (by conv => lhs; simp) (by first | rfl | simp [inlT, inlV]) | fail "no return here"
end Go.Abs.Na
namespace Go.Abs.Na
open Go Go.Proofs Go.Abs
set_option maxRecDepth 100000
set_option maxHeartbeats 4000000
set_option linter.unusedSimpArgs false
set_option linter.unusedVariables false
theorem tm' : Try.prog.follows .mixedOrders = true := by kernel_rfl
attribute [local simp] slice3A slice3C instA
theorem clone162_ok : FnC Try.prog 162 (cloneC 77 41 496) := by
  refine FnC.ofV 162 (fn := Try.f162) Try.func162 rfl (by kernel_rfl) fun args B r B' hS => ?_
  unfold cloneC at hS
  split at hS
  · simp only [Option.some.injEq, Prod.mk.injEq] at hS
    obtain ⟨rfl, rfl⟩ := hS
    refine ⟨by simp, ?_⟩
    change V _ (RetM _ _ 0 _ _) _ _ ⟨8, [(0, .nils)], []⟩
    repeat (first | refine NV.seq ?_ | refine NV.blk ?_ | refine V.seq rfl ?_ | refine V.block rfl ?_ | refine V.skip rfl ?_ | refine V.ret rfl ?_ | refine NV.nil ?_ | refine NV.loop ?_ | refine V.exit rfl ?_ | refine XV.seq ?_ | refine XV.loop ?_ | refine XV.hit ?_ | refine XV.pass (by decide) ?_ | refine V.condT rfl (by rfl) ?_ | refine V.condF rfl (by rfl) ?_ | refine V.region tm no_specs rfl (by conv => lhs; simp) fun _ => ?_ | refine V.regionD tm no_specs rfl (by conv => lhs; simp) (by conv => lhs; simp) (by kernel_rfl) fun _ => ?_)
    refine retM2_ok false [] [] ?_
    simp [retM2, movedOK, oldOK, frqT, frqV, frqVs, frqL, frq1, expG, expB3, renB, AV.ren, renL, List.range, List.range.loop, resVs, resV, pack, List.zipWith, List.idxOf?, List.findIdx?, List.findIdx?.go]
  · rename_i s rows
    split at hS
    · rename_i hc
      obtain ⟨rfl, h1, h1', h2⟩ := hc
      simp only [Option.some.injEq, Prod.mk.injEq] at hS
      obtain ⟨rfl, rfl⟩ := hS
      refine ⟨by simp, ?_⟩
      change V _ (RetM _ _ 0 _ _) _ _ ⟨8, [(0, .list 41 rows)], []⟩
      cases rows with
      | nil =>
        refine V.nilCase (t := 0) (s := 41) 0 rfl rfl ?_ ?_
        · repeat (first | refine NV.seq ?_ | refine NV.blk ?_ | refine V.seq rfl ?_ | refine V.block rfl ?_ | refine V.skip rfl ?_ | refine NV.nil ?_ | refine NV.loop ?_ | refine V.exit rfl ?_ | refine XV.seq ?_ | refine XV.loop ?_ | refine XV.hit ?_ | refine XV.pass (by decide) ?_ | refine V.condT rfl (by rfl) ?_ | refine V.condF rfl (by rfl) ?_ | refine V.region tm no_specs rfl (by conv => lhs; simp) fun _ => ?_ | refine V.regionD tm no_specs rfl (by conv => lhs; simp) (by conv => lhs; simp) (by kernel_rfl) fun _ => ?_)
          refine V.phantom (t := 2) 100 77 41 rfl rfl (by decide) ?_
          repeat (first | refine NV.seq ?_ | refine NV.blk ?_ | refine V.seq rfl ?_ | refine V.block rfl ?_ | refine V.skip rfl ?_ | refine V.ret rfl ?_ | refine NV.nil ?_ | refine NV.loop ?_ | refine V.exit rfl ?_ | refine XV.seq ?_ | refine XV.loop ?_ | refine XV.hit ?_ | refine XV.pass (by decide) ?_ | refine V.condT rfl (by rfl) ?_ | refine V.condF rfl (by rfl) ?_ | refine V.region tm no_specs rfl (by conv => lhs; simp) fun _ => ?_ | refine V.regionD tm no_specs rfl (by conv => lhs; simp) (by conv => lhs; simp) (by kernel_rfl) fun _ => ?_)
          simp only [List.length_nil, rowB]
          refine retM2_ok false [100] [0] ?_
          simp [retM2, movedOK, oldOK, frqT, frqV, frqVs, frqL, frq1, expG, expB3, renB, AV.ren, renL, List.range, List.range.loop, resVs, resV, pack, List.zipWith, List.idxOf?, List.findIdx?, List.findIdx?.go]
        · repeat (first | refine NV.seq ?_ | refine NV.blk ?_ | refine V.seq rfl ?_ | refine V.block rfl ?_ | refine V.skip rfl ?_ | refine V.ret rfl ?_ | refine NV.nil ?_ | refine NV.loop ?_ | refine V.exit rfl ?_ | refine XV.seq ?_ | refine XV.loop ?_ | refine XV.hit ?_ | refine XV.pass (by decide) ?_ | refine V.condT rfl (by rfl) ?_ | refine V.condF rfl (by rfl) ?_ | refine V.region tm no_specs rfl (by conv => lhs; simp) fun _ => ?_ | refine V.regionD tm no_specs rfl (by conv => lhs; simp) (by conv => lhs; simp) (by kernel_rfl) fun _ => ?_)
          simp only [List.length_nil, rowB]
          refine retM2_ok false [96] [0] ?_
          simp [retM2, movedOK, oldOK, frqT, frqV, frqVs, frqL, frq1, expG, expB3, renB, AV.ren, renL, List.range, List.range.loop, resVs, resV, pack, List.zipWith, List.idxOf?, List.findIdx?, List.findIdx?.go]
      | cons x rows =>
        simp only [List.length_cons] at h1 h2 h1'
        try simp only [Nat.mul_one] at h1
        repeat (first | refine NV.seq ?_ | refine NV.blk ?_ | refine V.seq rfl ?_ | refine V.block rfl ?_ | refine V.skip rfl ?_ | refine V.ret rfl ?_ | refine NV.nil ?_ | refine NV.loop ?_ | refine V.exit rfl ?_ | refine XV.seq ?_ | refine XV.loop ?_ | refine XV.hit ?_ | refine XV.pass (by decide) ?_ | refine V.condT rfl (by rfl) ?_ | refine V.condF rfl (by rfl) ?_ | refine V.region tm no_specs rfl (by conv => lhs; simp [h1, h2, h1']) fun _ => ?_ | refine V.regionD tm no_specs rfl (by conv => lhs; simp [h1, h2, h1']) (by conv => lhs; simp) (by kernel_rfl) fun _ => ?_)
        simp only [List.length_cons, rowB]
        refine retM2_ok false [96] [0] ?_
        simp [retM2, movedOK, oldOK, frqT, frqV, frqVs, frqL, frq1, expG, expB3, renB, AV.ren, renL, List.range, List.range.loop, resVs, resV, pack, List.zipWith, List.idxOf?, List.findIdx?, List.findIdx?.go]
    · cases hS
  · rename_i len b
    split at hS
    · rename_i hc
      obtain ⟨hb, rfl, h1, h2⟩ := hc
      simp only [Option.some.injEq, Prod.mk.injEq] at hS
      obtain ⟨rfl, rfl⟩ := hS
      rw [okB_eq hb]
      generalize b.rows = rows at h1 h2 ⊢
      refine ⟨by simp, ?_⟩
      change V _ (RetM _ _ 1 _ _) _ _ ⟨8, [(0, .sl 0 0 0 rows.length)], [(0, { gen := 0, kind := 2, elem := 77, size := 41, inl := true, rows })]⟩
      cases rows with
      | nil =>
        refine V.slNil (t := 0) 1 rfl rfl rfl rfl ?_ ?_
        · repeat (first | refine NV.seq ?_ | refine NV.blk ?_ | refine V.seq rfl ?_ | refine V.block rfl ?_ | refine V.skip rfl ?_ | refine NV.nil ?_ | refine NV.loop ?_ | refine V.exit rfl ?_ | refine XV.seq ?_ | refine XV.loop ?_ | refine XV.hit ?_ | refine XV.pass (by decide) ?_ | refine V.condT rfl (by rfl) ?_ | refine V.condF rfl (by rfl) ?_ | refine V.region tm no_specs rfl (by conv => lhs; simp) fun _ => ?_ | refine V.regionD tm no_specs rfl (by conv => lhs; simp) (by conv => lhs; simp) (by kernel_rfl) fun _ => ?_)
          refine V.phantom (t := 2) 100 77 41 rfl rfl (by decide) ?_
          repeat (first | refine NV.seq ?_ | refine NV.blk ?_ | refine V.seq rfl ?_ | refine V.block rfl ?_ | refine V.skip rfl ?_ | refine V.ret rfl ?_ | refine NV.nil ?_ | refine NV.loop ?_ | refine V.exit rfl ?_ | refine XV.seq ?_ | refine XV.loop ?_ | refine XV.hit ?_ | refine XV.pass (by decide) ?_ | refine V.condT rfl (by rfl) ?_ | refine V.condF rfl (by rfl) ?_ | refine V.region tm no_specs rfl (by conv => lhs; simp) fun _ => ?_ | refine V.regionD tm no_specs rfl (by conv => lhs; simp) (by conv => lhs; simp) (by kernel_rfl) fun _ => ?_)
          simp only [List.length_nil, rowB]
          refine retM2_ok false [0, 100] [0, 0] ?_
          simp [retM2, movedOK, oldOK, frqT, frqV, frqVs, frqL, frq1, expG, expB3, renB, AV.ren, renL, List.range, List.range.loop, resVs, resV, pack, List.zipWith, List.idxOf?, List.findIdx?, List.findIdx?.go]
        · repeat (first | refine NV.seq ?_ | refine NV.blk ?_ | refine V.seq rfl ?_ | refine V.block rfl ?_ | refine V.skip rfl ?_ | refine V.ret rfl ?_ | refine NV.nil ?_ | refine NV.loop ?_ | refine V.exit rfl ?_ | refine XV.seq ?_ | refine XV.loop ?_ | refine XV.hit ?_ | refine XV.pass (by decide) ?_ | refine V.condT rfl (by rfl) ?_ | refine V.condF rfl (by rfl) ?_ | refine V.region tm no_specs rfl (by conv => lhs; simp) fun _ => ?_ | refine V.regionD tm no_specs rfl (by conv => lhs; simp) (by conv => lhs; simp) (by kernel_rfl) fun _ => ?_)
          simp only [List.length_nil, rowB]
          refine retM2_ok false [0, 96] [0, 0] ?_
          simp [retM2, movedOK, oldOK, frqT, frqV, frqVs, frqL, frq1, expG, expB3, renB, AV.ren, renL, List.range, List.range.loop, resVs, resV, pack, List.zipWith, List.idxOf?, List.findIdx?, List.findIdx?.go]
      | cons x rows =>
        simp only [List.length_cons] at h1 h2
        try simp only [Nat.mul_one] at h1
        repeat (first | refine NV.seq ?_ | refine NV.blk ?_ | refine V.seq rfl ?_ | refine V.block rfl ?_ | refine V.skip rfl ?_ | refine V.ret rfl ?_ | refine NV.nil ?_ | refine NV.loop ?_ | refine V.exit rfl ?_ | refine XV.seq ?_ | refine XV.loop ?_ | refine XV.hit ?_ | refine XV.pass (by decide) ?_ | refine V.condT rfl (by rfl) ?_ | refine V.condF rfl (by rfl) ?_ | refine V.region tm no_specs rfl (by conv => lhs; simp [h1, h2]) fun _ => ?_ | refine V.regionD tm no_specs rfl (by conv => lhs; simp [h1, h2]) (by conv => lhs; simp) (by kernel_rfl) fun _ => ?_)
        simp only [List.length_cons, rowB]
        refine retM2_ok false [0, 96] [0, 0] ?_
        simp [retM2, movedOK, oldOK, frqT, frqV, frqVs, frqL, frq1, expG, expB3, renB, AV.ren, renL, List.range, List.range.loop, resVs, resV, pack, List.zipWith, List.idxOf?, List.findIdx?, List.findIdx?.go]
    · cases hS
  · cases hS
noncomputable def cpS : SpecFn := mkS (fun d : Tks => [d.v]) fun d => (d.v, [])
theorem cpS_eq (d : Tks) : cpS [d.v] [] = some (d.v, []) :=
  mkS_eq (enc := fun d : Tks => [d.v]) (fun x y h => by
    simp only [List.cons.injEq, and_true] at h
    cases Tks.v_inj h
    rfl) d
attribute [local simp] instA
attribute [-simp] mkv
attribute [local simp] mkv_hd hdA_cons hdA_ob hdA_ob'
noncomputable def cp_specs : NL Spec := [(162, ⟨3, cloneC 77 41 496⟩), (56, ⟨1, cobS⟩)]
theorem cp_specs_ok : ∀ p ∈ cp_specs, FnC Try.prog p.1 p.2.fn := by
  simp only [cp_specs, List.mem_cons, List.not_mem_nil, or_false]
  rintro p (rfl | rfl)
  · exact clone162_ok
  · exact cob_ok
attribute [local simp] cp_specs
theorem cp_ok : FnC Try.prog 93 cpS := by
  refine FnC.walk 93 (fn := Try.f93) Try.func93 rfl (by kernel_rfl) fun d => ?_
  obtain ⟨nd, l, hl⟩ := d
  change W _ (Ret _ _ (.agg [.int .i64 nd, .list 41 (l.map Tok.c)]) []) _ _ ⟨29, [(0, .agg [.int .i64 nd, .list 41 (l.map Tok.c)])], []⟩
  have cap : l.length ≤ 9223372036854775807 := by have := capT (n := l.length) (by omega); exact this
  have cc : cloneC 77 41 496 [.list 41 (l.map Tok.c)] [] = some (.sl 0 0 0 l.length, [{ gen := 0, kind := 2, elem := 77, size := 41, inl := true, rows := l.map Tok.c }]) := by
    have e1 : l.length * 496 ≤ 140737488355328 := by omega
    have e3 : l.length ≤ maxLen := by simp only [maxLen]; omega
    simp [cloneC, e1, cap, e3, rowB]
  repeat (first | refine ZS ?_ | refine ZK tm cp_specs_ok rfl (by conv => lhs; simp [cap, cc]) fun _ => ?_ | refine ZL tm cp_specs_ok rfl (by conv => lhs; simp [cap, cc]) fun _ => ?_)
  refine W.loop rfl (ι := { q : Nat × NL ABlk // q.1 ≤ l.length ∧ lk q.2 32 = some { gen := 1, kind := 2, elem := 69, size := 2, inl := false, rows := [[.int .i64 nd, .sl 128 1 0 l.length]] } ∧ lk q.2 48 = some { gen := 1, kind := 2, elem := 69, size := 2, inl := false, rows := [[.int .i64 0, .nils]] } ∧ lk q.2 128 = some (tkB 1 l) })
    (fun q => ⟨29, [(1, .ptr 32 1 0 0), (2, .ptr 48 1 0 0), (11, .int .i64 l.length), (12, .int .i64 (q.1.1 : Nat))], q.1.2⟩) (fun q => l.length - q.1.1)
    ⟨(0, _), by simp, rfl, rfl, rfl⟩ (AS.le_of rfl ⟨rfl, rfl, rfl, rfl, trivial⟩ (fun _ => rfl)) ?_
  rintro ⟨⟨k, h⟩, hk, h1, h2, h3⟩
  dsimp only at hk h1 h2 h3 ⊢
  by_cases hk2 : k = l.length
  · subst hk2
    repeat (first | refine ZS ?_ | refine ZK tm cp_specs_ok rfl (by conv => lhs; simp [h1, h2]) fun _ => ?_ | refine ZL tm cp_specs_ok rfl (by conv => lhs; simp [h1, h2]) fun _ => ?_)
    first | exact Ret.dataR rfl (by conv => lhs; simp [h3, tkB, take_acc]) (by conv => lhs; simp [h3, tkB, take_acc]) (by first | rfl | simp [inlT, inlV]) | fail "no return here"
  · have hlt : k < l.length := by omega
    obtain ⟨t, hr⟩ := get_lt hlt
    have hm : (l.map Tok.c)[k]? = some t.c := by rw [List.getElem?_map, hr]; rfl
    have q1 : (k : Int) < l.length := by omega
    have q2 : ¬ l.length ≤ k := by omega
    have hw : IntKind.i64.wrap ((k : Int) + 1) = ((k + 1 : Nat) : Int) := w64 (by omega) (by omega)
    have co := cobS_eq t.obj
    obtain ⟨a1, a2, o, a3, a4, a5⟩ := t
    have hs := set_self hm
    simp only [Tok.c] at hm hs co
    repeat (first | refine ZS ?_ | refine ZK tm cp_specs_ok rfl (by conv => lhs; simp [q1, q2, hm, h1, h2, h3, tkB, co, hw, hs]) fun _ => ?_ | refine ZL tm cp_specs_ok rfl (by conv => lhs; simp [q1, q2, hm, h1, h2, h3, tkB, co, hw, hs]) fun _ => ?_)
    exact ⟨⟨(k + 1, _), hlt, by simp [lk_st, h1], by simp [lk_st, h2], by simp [lk_st, tkB]⟩, by dsimp only; omega, AS.le_of rfl ⟨rfl, rfl, rfl, rfl, trivial⟩ (fun _ => rfl)⟩
/-! ### Finding one: the functions that are handed on -/
def u8B (id : Int) : ABlk := { gen := 0, kind := 2, elem := 30, size := 1, inl := false, rows := [[.int .u64 id]] }
def encF (d : Tok × Int) : List AV × List ABlk := ([.agg d.1.c, .ptr 0 0 0 0], [u8B d.2])
theorem encF_inj {β : Type} {f : Tok × Int → β} : ∀ x y, encF x = encF y → f x = f y := fun x y h => by
  obtain ⟨a, b⟩ := x
  obtain ⟨a', b'⟩ := y
  simp only [encF, u8B, Prod.mk.injEq, List.cons.injEq, AV.agg.injEq, AV.int.injEq, ABlk.mk.injEq, true_and, and_true] at h
  obtain ⟨h1, rfl⟩ := h
  cases Tok.c_inj h1
  rfl
noncomputable def fqS : SpecFn := mkS2 encF fun d => (.bool (d.1.id == d.2), [u8B d.2])
theorem fq_ok : FnC Try.prog 164 fqS := by
  refine FnC.walkB 164 (fn := Try.f164) Try.func164 rfl (by kernel_rfl) (fun x b hb => by simp [encF] at hb; rw [hb]; rfl) fun x => ?_
  obtain ⟨⟨a1, a2, o, a3, a4, a5⟩, id⟩ := x
  change W _ (RetB _ _ 1 (.bool (a1 == id)) [u8B id]) _ _ ⟨8, [(0, .agg (.int .u64 a1 :: .int .i64 a2 :: (o.cells ++ [.int .i64 a3, .bool a4, .bool a5]))), (1, .ptr 0 0 0 0)], [(0, u8B id)]⟩
  repeat (first | refine ZS ?_ | refine ZK tm no_specs rfl (by conv => lhs; simp [u8B]) fun _ => ?_ | refine ZL tm no_specs rfl (by conv => lhs; simp [u8B]) fun _ => ?_)
  simp only [u8B]
  first | exact retE2_ok false (by conv => lhs; simp [retE2, frqT, frqV, frqVs, frqL, frq1, reachE, blkRefs, outE, nodupE, firstE, seqO, expB2, expF, refsB, refsL, AV.refs, AV.ren, renL, renB, List.range, List.range.loop, resVs, resV, pack]) | fail "no return here"
end Go.Abs.Na
namespace Go.Abs.Na
open Go Go.Proofs Go.Abs
set_option maxRecDepth 100000
set_option maxHeartbeats 4000000
set_option linter.unusedSimpArgs false
set_option linter.unusedVariables false
attribute [local simp] instA
attribute [-simp] mkv
attribute [local simp] mkv_hd hdA_cons hdA_ob hdA_ob'
def idxF (id : Int) : Nat → List Tok → Int
  | _, [] => -1
  | k, t :: r => if t.id = id then (k : Int) else idxF id (k + 1) r
theorem idxF_drop {id : Int} {l : List Tok} {k : Nat} {t : Tok} (h : l[k]? = some t) : idxF id k (l.drop k) = if t.id = id then (k : Int) else idxF id (k + 1) (l.drop (k + 1)) := by
  obtain ⟨hk, rfl⟩ := List.getElem?_eq_some_iff.1 h
  rw [List.drop_eq_getElem_cons hk, idxF]
def encI (d : {l : List Tok // l.length ≤ 9000} × Int) : List AV × List ABlk := ([.list 41 (d.1.1.map Tok.c), .fn (.func 164) [] [.ptr 0 0 0 0]], [u8B d.2])
noncomputable def ixS : SpecFn := mkS2 encI fun d => (.int .i64 (idxF d.2 0 d.1.1), [u8B d.2])
noncomputable def ix_specs : NL Spec := [(164, ⟨3, fqS⟩)]
theorem ix_specs_ok : ∀ p ∈ ix_specs, FnC Try.prog p.1 p.2.fn := by
  simp only [ix_specs, List.mem_cons, List.not_mem_nil, or_false]
  rintro p rfl
  exact fq_ok
attribute [local simp] ix_specs
theorem fqS_eq (t : Tok) (id : Int) : fqS [.agg t.c, .ptr 0 0 0 0] [u8B id] = some (.bool (t.id == id), [u8B id]) := mkS2_eq encF_inj (t, id)
theorem ix_ok : FnC Try.prog 160 ixS := by
  refine FnC.walkB 160 (fn := Try.f160) Try.func160 rfl (by kernel_rfl) (fun x b hb => by simp [encI] at hb; rw [hb]; rfl) fun x => ?_
  obtain ⟨⟨l, hl⟩, id⟩ := x
  change W _ (RetB _ _ 1 (.int .i64 (idxF id 0 l)) [u8B id]) _ _ ⟨19, [(0, .list 41 (l.map Tok.c)), (1, .fn (.func 164) [] [.ptr 0 0 0 0])], [(0, u8B id)]⟩
  have cap : l.length ≤ 9223372036854775807 := by have := capT (n := l.length) (by omega); exact this
  repeat (first | refine ZS ?_ | refine ZK tm ix_specs_ok rfl (by conv => lhs; simp [cap]) fun _ => ?_ | refine ZL tm ix_specs_ok rfl (by conv => lhs; simp [cap]) fun _ => ?_)
  refine W.loop rfl (ι := { q : Nat × NL ABlk // q.1 ≤ l.length ∧ idxF id 0 l = idxF id q.1 (l.drop q.1) ∧ lk q.2 0 = some (u8B id) })
    (fun q => ⟨19, [(0, .list 41 (l.map Tok.c)), (1, .fn (.func 164) [] [.ptr 0 0 0 0]), (7, .int .i64 l.length), (8, .int .i64 (q.1.1 : Nat))], q.1.2⟩) (fun q => l.length - q.1.1)
    ⟨(0, _), by simp, rfl, rfl⟩ (AS.le_of rfl ⟨rfl, rfl, rfl, rfl, trivial⟩ (fun _ => rfl)) ?_
  rintro ⟨⟨k, h⟩, hk, hf, h1⟩
  dsimp only at hk hf h1 ⊢
  by_cases hk2 : k = l.length
  · subst hk2
    rw [List.drop_length] at hf
    rw [hf]
    simp only [idxF]
    repeat (first | refine ZS ?_ | refine ZK tm ix_specs_ok rfl (by conv => lhs; simp) fun _ => ?_ | refine ZL tm ix_specs_ok rfl (by conv => lhs; simp) fun _ => ?_)
    simp only [u8B] at h1 ⊢
    first | exact retE2_ok false (by conv => lhs; simp [retE2, frqT, frqV, frqVs, frqL, frq1, reachE, blkRefs, outE, nodupE, firstE, seqO, expB2, expF, refsB, refsL, AV.refs, AV.ren, renL, renB, List.range, List.range.loop, resVs, resV, pack, h1]) | fail "no return here"
  · have hlt : k < l.length := by omega
    obtain ⟨t, hr⟩ := get_lt hlt
    have hm : (l.map Tok.c)[k]? = some t.c := by rw [List.getElem?_map, hr]; rfl
    have q1 : (k : Int) < l.length := by omega
    have q2 : ¬ l.length ≤ k := by omega
    have hw : IntKind.i64.wrap ((k : Int) + 1) = ((k + 1 : Nat) : Int) := w64 (by omega) (by omega)
    rw [idxF_drop hr] at hf
    have cf := fqS_eq t id
    obtain ⟨a1, a2, o, a3, a4, a5⟩ := t
    simp only [Tok.c, u8B] at hm cf h1
    by_cases hi : a1 = id
    · have e1 : (a1 == id) = true := by simp [hi]
      rw [if_pos hi] at hf
      rw [hf]
      rw [e1] at cf
      repeat (first | refine ZS ?_ | refine ZK tm ix_specs_ok rfl (by conv => lhs; simp [q1, q2, hm, h1, cf]) fun _ => ?_ | refine ZL tm ix_specs_ok rfl (by conv => lhs; simp [q1, q2, hm, h1, cf]) fun _ => ?_)
      simp only [u8B]
      first | exact retE2_ok false (by conv => lhs; simp [retE2, frqT, frqV, frqVs, frqL, frq1, reachE, blkRefs, outE, nodupE, firstE, seqO, expB2, expF, refsB, refsL, AV.refs, AV.ren, renL, renB, List.range, List.range.loop, resVs, resV, pack, h1]) | fail "no return here"
    · have e1 : (a1 == id) = false := by simp [hi]
      rw [if_neg hi] at hf
      rw [e1] at cf
      repeat (first | refine ZS ?_ | refine ZK tm ix_specs_ok rfl (by conv => lhs; simp [q1, q2, hm, h1, cf, hw]) fun _ => ?_ | refine ZL tm ix_specs_ok rfl (by conv => lhs; simp [q1, q2, hm, h1, cf, hw]) fun _ => ?_)
      exact ⟨⟨(k + 1, _), hlt, hf, by simp [lk_st, h1, u8B]⟩, by dsimp only; omega, AS.le_of rfl ⟨rfl, rfl, rfl, rfl, trivial⟩ (fun _ => rfl)⟩
theorem encI_inj {β : Type} {f : {l : List Tok // l.length ≤ 9000} × Int → β} : ∀ x y, encI x = encI y → f x = f y := fun x y h => by
  obtain ⟨⟨a, ha⟩, b⟩ := x
  obtain ⟨⟨a', ha'⟩, b'⟩ := y
  simp only [encI, u8B, Prod.mk.injEq, List.cons.injEq, AV.list.injEq, AV.int.injEq, ABlk.mk.injEq, true_and, and_true] at h
  obtain ⟨h1, rfl⟩ := h
  cases rows_inj h1
  rfl
theorem ixS_eq (l : List Tok) (hl : l.length ≤ 9000) (id : Int) : ixS [.list 41 (l.map Tok.c), .fn (.func 164) [] [.ptr 0 0 0 0]] [u8B id] = some (.int .i64 (idxF id 0 l), [u8B id]) := mkS2_eq encI_inj (⟨l, hl⟩, id)
/-- What the index tells. -/
theorem idxF_fnd (id : Int) : ∀ (l : List Tok) (k : Nat), (fnd id l = none ∧ idxF id k l = -1) ∨ ∃ j t, l[j]? = some t ∧ fnd id l = some t ∧ idxF id k l = ((k + j : Nat) : Int)
  | [], k => .inl ⟨rfl, rfl⟩
  | t :: r, k => by
    unfold fnd idxF
    by_cases h : t.id = id
    · rw [if_pos h, if_pos h]
      exact .inr ⟨0, t, rfl, rfl, rfl⟩
    · rw [if_neg h, if_neg h]
      rcases idxF_fnd id r (k + 1) with h1 | ⟨j, s, h1, h2, h3⟩
      · exact .inl h1
      · exact .inr ⟨j + 1, s, h1, h2, by rw [h3]; congr 1; omega⟩
noncomputable def fd_specs : NL Spec := [(160, ⟨3, ixS⟩)]
theorem fd_specs_ok : ∀ p ∈ fd_specs, FnC Try.prog p.1 p.2.fn := by
  simp only [fd_specs, List.mem_cons, List.not_mem_nil, or_false]
  rintro p rfl
  exact ix_ok
attribute [local simp] fd_specs
theorem fd_ok : FnC Try.prog 97 fndS := by
  refine FnC.walkN 97 (fn := Try.f97) [77] Try.func97 rfl (by kernel_rfl) (fun d => ?_) (fun d => ⟨_, tok_nrmV _⟩)
  obtain ⟨⟨nd, l, hl⟩, id⟩ := d
  have ci := ixS_eq l hl id
  simp only [u8B] at ci
  change W _ (RetNf _ _ _ (.agg ((fnd id l).getD (tok0 id)).c) []) _ _ ⟨19, [(0, .agg [.int .i64 nd, .list 41 (l.map Tok.c)]), (1, .int .u64 id)], []⟩
  have cap : l.length ≤ 9223372036854775807 := by have := capT (n := l.length) (by omega); exact this
  rcases idxF_fnd id l 0 with ⟨h1, h2⟩ | ⟨j, t, h1, h2, h3⟩
  · rw [h1]
    rw [h2] at ci
    repeat (first | refine ZS ?_ | refine ZK tm fd_specs_ok rfl (by conv => lhs; simp [ci, zO]) fun _ => ?_ | refine ZL tm fd_specs_ok rfl (by conv => lhs; simp [ci, zO]) fun _ => ?_)
    refine ⟨.agg (.int .u64 id :: .int .i64 0 :: (zO ++ [.int .i64 0, .bool false, .bool false])), ?_, ?_⟩
    · simp only [zO, List.cons_append, List.nil_append]
      first | exact Ret.dataR rfl (by conv => lhs; simp) (by conv => lhs; simp) (by first | rfl | simp [inlT, inlV]) | fail "no return here"
    · simp only [nrmR, nrmV, tok_nrm0]
      rfl
  · rw [h2]
    rw [h3, Nat.zero_add] at ci
    have hm : (l.map Tok.c)[j]? = some t.c := by rw [List.getElem?_map, h1]; rfl
    have hj : j < l.length := (List.getElem?_eq_some_iff.1 h1).1
    have q1 : ¬ (j : Int) < 0 := by omega
    have q2 : ¬ l.length ≤ j := by omega
    obtain ⟨a1, a2, o, a3, a4, a5⟩ := t
    simp only [Tok.c] at hm
    clear hj
    repeat (first | refine ZS ?_ | refine ZK tm fd_specs_ok rfl (by conv => lhs; simp [ci, q1, q2, hm]) fun _ => ?_ | refine ZL tm fd_specs_ok rfl (by conv => lhs; simp [ci, q1, q2, hm]) fun _ => ?_)
    refine ⟨_, ?_, tok_nrmV _⟩
    simp only [Option.getD_some, Tok.c]
    first | exact Ret.dataR rfl (by conv => lhs; simp) (by conv => lhs; simp) (by first | rfl | simp [inlT, inlV]) | fail "no return here"
/-! ### Holding -/
noncomputable def hoS : SpecFn := mkS (fun d : Tks × Int × Int => [d.1.v, .int .u64 d.2.1, .int .i64 d.2.2]) fun d => (.bool (okM d.2.2 && decide (d.2.2 ≤ ((fnd d.2.1 d.1.toks).getD (tok0 d.2.1)).mode)), [])
theorem hoS_eq (d : Tks) (id m : Int) : hoS [d.v, .int .u64 id, .int .i64 m] [] = some (.bool (okM m && decide (m ≤ ((fnd id d.toks).getD (tok0 id)).mode)), []) :=
  mkS_eq (enc := fun d : Tks × Int × Int => [d.1.v, .int .u64 d.2.1, .int .i64 d.2.2]) (fun x y h => by
    obtain ⟨a, b, c⟩ := x
    obtain ⟨a', b', c'⟩ := y
    simp only [List.cons.injEq, AV.int.injEq, true_and, and_true] at h
    obtain ⟨h, rfl, rfl⟩ := h
    cases Tks.v_inj h
    rfl) (d, id, m)
noncomputable def ho_specs : NL Spec := [(75, ⟨1, boS okM⟩), (97, ⟨1, fndS⟩)]
theorem ho_specs_ok : ∀ p ∈ ho_specs, FnC Try.prog p.1 p.2.fn := by
  simp only [ho_specs, List.mem_cons, List.not_mem_nil, or_false]
  rintro p (rfl | rfl)
  · exact mo1_ok
  · exact fd_ok
attribute [local simp] ho_specs
theorem ho_ok : FnC Try.prog 41 hoS := by
  refine FnC.walk 41 (fn := Try.f41) Try.func41 rfl (by kernel_rfl) fun d => ?_
  obtain ⟨d, id, m⟩ := d
  have cm := boS_eq okM m
  have cf := fndS_eq d id
  simp only [Tks.v] at cf
  change W _ (Ret _ _ (.bool (okM m && decide (m ≤ ((fnd id d.toks).getD (tok0 id)).mode))) []) _ _ ⟨17, [(0, .agg [.int .i64 d.node, .list 41 (d.toks.map Tok.c)]), (1, .int .u64 id), (2, .int .i64 m)], []⟩
  generalize (fnd id d.toks).getD (tok0 id) = t at *
  obtain ⟨a1, a2, o, a3, a4, a5⟩ := t
  obtain ⟨nd, l, hl⟩ := d
  dsimp only [Tok.c] at cf ⊢
  generalize okM m = om at *
  cases om with
  | false =>
    repeat (first | refine ZS ?_ | refine ZK tm ho_specs_ok rfl (by conv => lhs; simp [cm]) fun _ => ?_ | refine ZL tm ho_specs_ok rfl (by conv => lhs; simp [cm]) fun _ => ?_)
    simp only [Bool.false_and]
    first | exact Ret.dataR rfl (by conv => lhs; simp) (by conv => lhs; simp) (by first | rfl | simp [inlT, inlV]) | fail "no return here"
  | true =>
    repeat (first | refine ZS ?_ | refine ZK tm ho_specs_ok rfl (by conv => lhs; simp [cm, cf]) fun _ => ?_ | refine ZL tm ho_specs_ok rfl (by conv => lhs; simp [cm, cf]) fun _ => ?_)
    simp only [Bool.true_and]
    first | exact Ret.dataR rfl (by conv => lhs; simp) (by conv => lhs; simp) (by first | rfl | simp [inlT, inlV]) | fail "no return here"
end Go.Abs.Na
namespace Go.Abs.Na
open Go Go.Proofs Go.Abs
set_option maxRecDepth 100000
set_option maxHeartbeats 4000000
set_option linter.unusedSimpArgs false
set_option linter.unusedVariables false
attribute [local simp] instA
attribute [-simp] mkv
attribute [local simp] mkv_hd hdA_cons hdA_ob hdA_ob'
noncomputable def ls_specs : NL Spec := [(60, ⟨1, sobS⟩)]
theorem ls_specs_ok : ∀ p ∈ ls_specs, FnC Try.prog p.1 p.2.fn := by
  simp only [ls_specs, List.mem_cons, List.not_mem_nil, or_false]
  rintro p rfl
  exact sob_ok
attribute [local simp] ls_specs
noncomputable def lsS : SpecFn := mkS (fun d : Tks => [d.v, d.v]) fun _ => (.bool true, [])
theorem lsS_eq (d : Tks) : lsS [d.v, d.v] [] = some (.bool true, []) := mkS_eq (enc := fun d : Tks => [d.v, d.v]) (fun x y _ => rfl) d
theorem ls_ok : FnC Try.prog 29 lsS := by
  refine FnC.walk 29 (fn := Try.f29) Try.func29 rfl (by kernel_rfl) fun d => ?_
  obtain ⟨nd, l, hl⟩ := d
  change W _ (Ret _ _ (.bool true) []) _ _ ⟨77, [(0, .agg [.int .i64 nd, .list 41 (l.map Tok.c)]), (1, .agg [.int .i64 nd, .list 41 (l.map Tok.c)])], []⟩
  have cap : l.length ≤ 9223372036854775807 := by have := capT (n := l.length) (by omega); exact this
  repeat (first | refine ZS ?_ | refine ZK tm ls_specs_ok rfl (by conv => lhs; simp [cap, bne_self']) fun _ => ?_ | refine ZL tm ls_specs_ok rfl (by conv => lhs; simp [cap, bne_self']) fun _ => ?_)
  refine W.loop rfl (ι := { q : Nat × NL ABlk // q.1 ≤ l.length ∧ lk q.2 64 = some { gen := 1, kind := 2, elem := 69, size := 2, inl := false, rows := [[.int .i64 nd, .list 41 (l.map Tok.c)]] } })
    (fun q => ⟨77, [(3, .ptr 64 1 0 0), (23, .list 41 (l.map Tok.c)), (24, .int .i64 l.length), (25, .int .i64 (q.1.1 : Nat))], q.1.2⟩) (fun q => l.length - q.1.1)
    ⟨(0, _), by simp, rfl⟩ (AS.le_of rfl ⟨rfl, rfl, rfl, rfl, trivial⟩ (fun _ => rfl)) ?_
  rintro ⟨⟨k, h⟩, hk, h1⟩
  dsimp only at hk h1 ⊢
  by_cases hk2 : k = l.length
  · subst hk2
    repeat (first | refine ZS ?_ | refine ZK tm ls_specs_ok rfl (by conv => lhs; simp [cap]) fun _ => ?_ | refine ZL tm ls_specs_ok rfl (by conv => lhs; simp [cap]) fun _ => ?_)
    first | exact Ret.dataR rfl (by conv => lhs; simp) (by conv => lhs; simp) (by first | rfl | simp [inlT, inlV]) | fail "no return here"
  · have hlt : k < l.length := by omega
    obtain ⟨t, hr⟩ := get_lt hlt
    have hm : (l.map Tok.c)[k]? = some t.c := by rw [List.getElem?_map, hr]; rfl
    have q1 : (k : Int) < l.length := by omega
    have q2 : ¬ l.length ≤ k := by omega
    have hw : IntKind.i64.wrap ((k : Int) + 1) = ((k + 1 : Nat) : Int) := w64 (by omega) (by omega)
    have co := sobS_eq t.obj
    obtain ⟨a1, a2, o, a3, a4, a5⟩ := t
    simp only [Tok.c] at hm co
    cases a4 <;> cases a5 <;>
    · repeat (first | refine ZS ?_ | refine ZK tm ls_specs_ok rfl (by conv => lhs; simp [q1, q2, hm, h1, co, hw, bne_self']) fun _ => ?_ | refine ZL tm ls_specs_ok rfl (by conv => lhs; simp [q1, q2, hm, h1, co, hw, bne_self']) fun _ => ?_)
      exact ⟨⟨(k + 1, _), hlt, by simp [lk_st, h1]⟩, by dsimp only; omega, AS.le_of rfl ⟨rfl, rfl, rfl, rfl, trivial⟩ (fun _ => rfl)⟩
/-! ### Messages -/
noncomputable def lmS : SpecFn := mkS (fun d : {l : List Msg // l.length ≤ 9000} => [.list 45 (d.1.map Msg.v), .list 45 (d.1.map Msg.v)]) fun _ => (.bool true, [])
theorem lmS_eq (l : List Msg) (hl : l.length ≤ 9000) : lmS [.list 45 (l.map Msg.v), .list 45 (l.map Msg.v)] [] = some (.bool true, []) :=
  mkS_eq (enc := fun d : {l : List Msg // l.length ≤ 9000} => [AV.list 45 (d.1.map Msg.v), .list 45 (d.1.map Msg.v)]) (fun x y _ => rfl) ⟨l, hl⟩
theorem lm_ok : FnC Try.prog 36 lmS := by
  refine FnC.walk 36 (fn := Try.f36) Try.func36 rfl (by kernel_rfl) fun d => ?_
  obtain ⟨l, hl⟩ := d
  change W _ (Ret _ _ (.bool true) []) _ _ ⟨94, [(0, .list 45 (l.map Msg.v)), (1, .list 45 (l.map Msg.v))], []⟩
  have cap : l.length ≤ 9223372036854775807 := by have := capT (n := l.length) (by omega); exact this
  repeat (first | refine ZS ?_ | refine ZK tm ls_specs_ok rfl (by conv => lhs; simp [cap, bne_self']) fun _ => ?_ | refine ZL tm ls_specs_ok rfl (by conv => lhs; simp [cap, bne_self']) fun _ => ?_)
  refine W.loop rfl (ι := { q : Nat × NL ABlk // q.1 ≤ l.length })
    (fun q => ⟨94, [(1, .list 45 (l.map Msg.v)), (13, .list 45 (l.map Msg.v)), (14, .int .i64 l.length), (15, .int .i64 (q.1.1 : Nat))], q.1.2⟩) (fun q => l.length - q.1.1)
    ⟨(0, _), by simp⟩ (AS.le_of rfl ⟨rfl, rfl, rfl, rfl, trivial⟩ (fun _ => rfl)) ?_
  rintro ⟨⟨k, h⟩, hk⟩
  dsimp only at hk ⊢
  by_cases hk2 : k = l.length
  · subst hk2
    repeat (first | refine ZS ?_ | refine ZK tm ls_specs_ok rfl (by conv => lhs; simp [cap]) fun _ => ?_ | refine ZL tm ls_specs_ok rfl (by conv => lhs; simp [cap]) fun _ => ?_)
    first | exact Ret.dataR rfl (by conv => lhs; simp) (by conv => lhs; simp) (by first | rfl | simp [inlT, inlV]) | fail "no return here"
  · have hlt : k < l.length := by omega
    obtain ⟨t, hr⟩ := get_lt hlt
    have hm : (l.map Msg.v)[k]? = some t.v := by rw [List.getElem?_map, hr]; rfl
    have q1 : (k : Int) < l.length := by omega
    have q2 : ¬ l.length ≤ k := by omega
    have hw : IntKind.i64.wrap ((k : Int) + 1) = ((k + 1 : Nat) : Int) := w64 (by omega) (by omega)
    have co := sobS_eq t.obj
    obtain ⟨b1, b2, b3, b4, b5, o, b6, b7, b8, b9⟩ := t
    simp only [Msg.v] at hm co
    repeat (first | refine ZS ?_ | refine ZK tm ls_specs_ok rfl (by conv => lhs; simp [q1, q2, hm, co, hw, bne_self']) fun _ => ?_ | refine ZL tm ls_specs_ok rfl (by conv => lhs; simp [q1, q2, hm, co, hw, bne_self']) fun _ => ?_)
    exact ⟨⟨(k + 1, _), hlt⟩, by dsimp only; omega, AS.le_of rfl ⟨rfl, rfl, rfl, rfl, trivial⟩ (fun _ => rfl)⟩
end Go.Abs.Na
namespace Go.Abs.Na
open Go Go.Proofs Go.Abs
set_option maxRecDepth 100000
set_option maxHeartbeats 4000000
set_option linter.unusedSimpArgs false
set_option linter.unusedVariables false
/-! ### Dice -/
def byte (b : UInt8) : List AV := [.int .u8 b.toNat]
theorem byte_inj (a b : UInt8) (h : byte a = byte b) : a = b := by
  simp only [byte, List.cons.injEq, AV.int.injEq, true_and, and_true] at h
  exact UInt8.toNat_inj.1 (by omega)
def diceB (l : List UInt8) : ABlk := { gen := 0, kind := 2, elem := 140, size := 1, rows := [[.list 1 (l.map byte)]] }
theorem diceB_inj {a b : List UInt8} (h : diceB a = diceB b) : a = b := by
  simp only [diceB, ABlk.mk.injEq, List.cons.injEq, AV.list.injEq, true_and, and_true] at h
  exact map_inj byte_inj h
def dn (l : List UInt8) (n : Int) : Int := match l with
  | [] => 0
  | b :: _ => if n ≤ 1 then 0 else (b.toNat : Int).tmod n
def dl (l : List UInt8) (n : Int) : List UInt8 := match l with
  | [] => []
  | b :: r => if n ≤ 1 then b :: r else r
theorem dn_nonneg (l : List UInt8) (n : Int) : 0 ≤ dn l n := by
  unfold dn
  split
  · omega
  · split
    · omega
    · exact Int.tmod_nonneg _ (by omega)
theorem dn_lt (l : List UInt8) {n : Int} (h : 0 < n) : dn l n < n := by
  unfold dn
  split
  · exact h
  · split
    · omega
    · exact Int.tmod_lt_of_pos _ h
def encD (x : List UInt8 × Int) : List AV × List ABlk := ([.ptr 0 0 0 0, .int .i64 x.2], [diceB x.1])
noncomputable def diceS : SpecFn := mkS2 encD fun x => (.int .i64 (dn x.1 x.2), [diceB (dl x.1 x.2)])
theorem diceS_eq (l : List UInt8) (n : Int) : diceS [.ptr 0 0 0 0, .int .i64 n] [diceB l] = some (.int .i64 (dn l n), [diceB (dl l n)]) :=
  mkS2_eq (enc := encD) (fun x y h => by
    simp only [encD, Prod.mk.injEq, List.cons.injEq, AV.int.injEq, true_and, and_true] at h
    rw [Prod.ext (diceB_inj h.2) h.1]) (l, n)
attribute [local simp] convertA sliceArrA sliceA bndA nilCheckA
theorem dice_ok : FnC Try.prog 26 diceS := by
  refine FnC.walkB 26 (fn := Try.f26) Try.func26 rfl (by kernel_rfl) (fun x b hb => by simp [encD] at hb; rw [hb]; rfl) fun x => ?_
  obtain ⟨l, n⟩ := x
  change W _ (RetB _ _ 1 _ _) _ _ ⟨34, [(0, .ptr 0 0 0 0), (1, .int .i64 n)], [(0, diceB l)]⟩
  cases l with
  | nil =>
    repeat (first | refine ZS ?_ | refine ZK tm no_specs rfl (by conv => lhs; simp [diceB]) fun _ => ?_ | refine ZL tm no_specs rfl (by conv => lhs; simp [diceB]) fun _ => ?_)
    simp only [dn, dl, diceB, List.map_nil]
    first | exact retE2_ok false (by conv => lhs; simp [retE2, frqT, frqV, frqVs, frqL, frq1, reachE, blkRefs, outE, nodupE, firstE, seqO, expB2, expF, refsB, refsL, AV.refs, AV.ren, renL, renB, List.range, List.range.loop, resVs, resV, pack]) | fail "no return here"
  | cons b r =>
    have hne : (((r.length : Nat) : Int) + 1 == 0) = false := by simp; omega
    by_cases h : n ≤ 1
    · repeat (first | refine ZS ?_ | refine ZK tm no_specs rfl (by conv => lhs; simp [diceB, h, hne]) fun _ => ?_ | refine ZL tm no_specs rfl (by conv => lhs; simp [diceB, h, hne]) fun _ => ?_)
      simp only [dn, dl, diceB, if_pos h, List.map_cons]
      first | exact retE2_ok false (by conv => lhs; simp [retE2, frqT, frqV, frqVs, frqL, frq1, reachE, blkRefs, outE, nodupE, firstE, seqO, expB2, expF, refsB, refsL, AV.refs, AV.ren, renL, renB, List.range, List.range.loop, resVs, resV, pack]) | fail "no return here"
    · have wb : IntKind.i64.wrap (b.toNat : Int) = b.toNat := w64 (by omega) (by have := b.toNat_lt; omega)
      have h0 : ¬ n = 0 := by omega
      have ht : List.take r.length (r.map byte) = r.map byte := List.take_of_length_le (by simp)
      repeat (first | refine ZS ?_ | refine ZK tm no_specs rfl (by conv => lhs; simp [diceB, h, hne, byte, wb, h0, ht]) fun _ => ?_ | refine ZL tm no_specs rfl (by conv => lhs; simp [diceB, h, hne, byte, wb, h0, ht]) fun _ => ?_)
      simp only [dn, dl, diceB, if_neg h, List.map_cons]
      first | exact retE2_ok false (by conv => lhs; simp [retE2, frqT, frqV, frqVs, frqL, frq1, reachE, blkRefs, outE, nodupE, firstE, seqO, expB2, expF, refsB, refsL, AV.refs, AV.ren, renL, renB, List.range, List.range.loop, resVs, resV, pack]) | fail "no return here"
/-! ### New dice -/
attribute [local simp] sliceArrA sliceA bndA mmA placesA
def encNw (l : List UInt8) : List AV × List ABlk := ([.list 1 (l.map byte)], [])
theorem encNw_inj : ∀ x y : List UInt8, encNw x = encNw y → x = y := fun x y h => by
  simp only [encNw, Prod.mk.injEq, List.cons.injEq, AV.list.injEq, true_and, and_true] at h
  exact map_inj byte_inj h
noncomputable def newS : SpecFn := mkS2 encNw fun l => (.ptr 0 0 0 0, [diceB (l.take 400)])
theorem newS_eq (l : List UInt8) : newS [.list 1 (l.map byte)] [] = some (.ptr 0 0 0 0, [diceB (l.take 400)]) := mkS2_eq (enc := encNw) (fun x y h => by rw [encNw_inj x y h]) l
theorem new_ok : FnC Try.prog 23 newS := by
  refine FnC.walkB 23 (fn := Try.f23) Try.func23 rfl (by kernel_rfl) (fun x b hb => by simp [encNw] at hb) fun l => ?_
  change W _ (RetB _ _ 0 _ _) _ _ ⟨10, [(0, .list 1 (l.map byte))], []⟩
  by_cases h : (400 : Int) < l.length
  · have h2 : 400 ≤ l.length := by omega
    repeat (first | refine ZS ?_ | refine ZK tm no_specs rfl (by conv => lhs; simp [h, h2]) fun _ => ?_ | refine ZL tm no_specs rfl (by conv => lhs; simp [h, h2]) fun _ => ?_)
    simp only [diceB, List.map_take]
    first | exact retE2_ok false (by conv => lhs; simp [retE2, frqT, frqV, frqVs, frqL, frq1, reachE, blkRefs, outE, nodupE, firstE, seqO, expB2, expF, refsB, refsL, AV.refs, AV.ren, renL, renB, List.range, List.range.loop, resVs, resV, pack]) | fail "no return here"
  · have h2 : l.length ≤ 400 := by omega
    have h3 : List.take l.length (l.map byte) = l.map byte := List.take_of_length_le (by simp)
    repeat (first | refine ZS ?_ | refine ZK tm no_specs rfl (by conv => lhs; simp [h, h3]) fun _ => ?_ | refine ZL tm no_specs rfl (by conv => lhs; simp [h, h3]) fun _ => ?_)
    simp only [diceB, List.take_of_length_le h2]
    first | exact retE2_ok false (by conv => lhs; simp [retE2, frqT, frqV, frqVs, frqL, frq1, reachE, blkRefs, outE, nodupE, firstE, seqO, expB2, expF, refsB, refsL, AV.refs, AV.ren, renL, renB, List.range, List.range.loop, resVs, resV, pack]) | fail "no return here"
end Go.Abs.Na
namespace Go.Abs.Na
open Go Go.Proofs Go.Abs
set_option maxRecDepth 100000
set_option maxHeartbeats 4000000
set_option linter.unusedSimpArgs false
set_option linter.unusedVariables false
attribute [local simp] instA binOpA
def mk3 (a b c : Int) : Int := IntKind.u64.wrap ↑((IntKind.u64.wrap ↑((IntKind.u64.wrap (IntKind.u64.wrap a * 2 ^ min 56 IntKind.u64.bits) % 2 ^ IntKind.u64.bits).toNat ||| (IntKind.u64.wrap (IntKind.u64.wrap b * 2 ^ min 40 IntKind.u64.bits) % 2 ^ IntKind.u64.bits).toNat) % 2 ^ IntKind.u64.bits).toNat ||| (IntKind.u64.wrap c % 2 ^ IntKind.u64.bits).toNat)
structure Idp where
  a : Int
  b : Int
  c : Int
  h1 : 0 ≤ a
  h2 : a ≤ 127
  h3 : 0 ≤ b
  h4 : b ≤ 65535
  h5 : 1 ≤ c
  h6 : c ≤ 1099511627775
noncomputable def mk3S : SpecFn := mkS (fun d : Idp => [.int .i64 d.a, .int .i64 d.b, .int .i64 d.c]) fun d => (.tup [.int .u64 (mk3 d.a d.b d.c), .int .i64 0], [])
theorem mk3S_eq (d : Idp) : mk3S [.int .i64 d.a, .int .i64 d.b, .int .i64 d.c] [] = some (.tup [.int .u64 (mk3 d.a d.b d.c), .int .i64 0], []) :=
  mkS_eq (enc := fun d : Idp => [AV.int .i64 d.a, .int .i64 d.b, .int .i64 d.c]) (fun x y h => by
    simp only [List.cons.injEq, AV.int.injEq, true_and, and_true] at h
    obtain ⟨h1, h2, h3⟩ := h
    rw [h1, h2, h3]) d
theorem mk3_ok : FnC Try.prog 74 mk3S := by
  refine FnC.walk 74 (fn := Try.f74) Try.func74 rfl (by kernel_rfl) fun d => ?_
  obtain ⟨a, b, c, h1, h2, h3, h4, h5, h6⟩ := d
  have n1 : ¬ a < 0 := by omega
  have n2 : ¬ 127 < a := by omega
  have n3 : ¬ b < 0 := by omega
  have n4 : ¬ 65535 < b := by omega
  have n5 : ¬ c < 1 := by omega
  have n6 : ¬ 1099511627775 < c := by omega
  change W _ (Ret _ _ (.tup [.int .u64 (mk3 a b c), .int .i64 0]) []) _ _ ⟨40, [(0, .int .i64 a), (1, .int .i64 b), (2, .int .i64 c)], []⟩
  repeat (first | refine ZS ?_ | refine ZK tm no_specs rfl (by conv => lhs; simp [n1, n2, n3, n4, n5, n6]) fun _ => ?_ | refine ZL tm no_specs rfl (by conv => lhs; simp [n1, n2, n3, n4, n5, n6]) fun _ => ?_)
  simp only [mk3]
  first | exact Ret.dataR rfl (by conv => lhs; simp) (by conv => lhs; simp) (by first | rfl | simp [inlT, inlV]) | fail "no return here"
/-! ### An identifier of dice -/
def d1 (l : List UInt8) : List UInt8 := dl l 3
def d2 (l : List UInt8) : List UInt8 := dl (d1 l) 2
def d3 (l : List UInt8) : List UInt8 := dl (d2 l) 9
def idV (l : List UInt8) : Int := mk3 (dn l 3) (dn (d1 l) 2) (1 + dn (d2 l) 9)
def encD1 (l : List UInt8) : List AV × List ABlk := ([.ptr 0 0 0 0], [diceB l])
noncomputable def idS : SpecFn := mkS2 encD1 fun l => (.int .u64 (idV l), [diceB (d3 l)])
theorem idS_eq (l : List UInt8) : idS [.ptr 0 0 0 0] [diceB l] = some (.int .u64 (idV l), [diceB (d3 l)]) :=
  mkS2_eq (enc := encD1) (fun x y h => by
    simp only [encD1, Prod.mk.injEq, List.cons.injEq, true_and, and_true] at h
    rw [diceB_inj h]) l
noncomputable def id_specs : NL Spec := [(26, ⟨3, diceS⟩), (74, ⟨1, mk3S⟩)]
theorem id_specs_ok : ∀ p ∈ id_specs, FnC Try.prog p.1 p.2.fn := by
  simp only [id_specs, List.mem_cons, List.not_mem_nil, or_false]
  rintro p (rfl | rfl)
  · exact dice_ok
  · exact mk3_ok
attribute [local simp] id_specs
theorem id_ok : FnC Try.prog 25 idS := by
  refine FnC.walkB 25 (fn := Try.f25) Try.func25 rfl (by kernel_rfl) (fun x b hb => by simp [encD1] at hb; rw [hb]; rfl) fun l => ?_
  change W _ (RetB _ _ 1 (.int .u64 (mk3 (dn l 3) (dn (d1 l) 2) (1 + dn (d2 l) 9))) [diceB (d3 l)]) _ _ ⟨17, [(0, .ptr 0 0 0 0)], [(0, diceB l)]⟩
  have c1 := diceS_eq l 3
  have c2 := diceS_eq (d1 l) 2
  have c3 := diceS_eq (d2 l) 9
  have u1 := dn_nonneg l 3
  have u2 := dn_nonneg (d1 l) 2
  have u3 := dn_nonneg (d2 l) 9
  have v1 := dn_lt l (n := 3) (by omega)
  have v2 := dn_lt (d1 l) (n := 2) (by omega)
  have v3 := dn_lt (d2 l) (n := 9) (by omega)
  change diceS _ _ = some (_, [diceB (d1 l)]) at c1
  change diceS _ _ = some (_, [diceB (d2 l)]) at c2
  change diceS _ _ = some (_, [diceB (d3 l)]) at c3
  generalize dn l 3 = a at *
  generalize dn (d1 l) 2 = b at *
  generalize dn (d2 l) 9 = c at *
  generalize d3 l = e3 at *
  generalize d2 l = e2 at *
  generalize d1 l = e1 at *
  have cm := mk3S_eq ⟨a, b, 1 + c, u1, by omega, u2, by omega, by omega, by omega⟩
  have hw : IntKind.i64.wrap (1 + c) = 1 + c := w64 (by omega) (by omega)
  simp only [diceB] at c1 c2 c3
  dsimp only at cm
  repeat (first | refine ZS ?_ | refine ZK tm id_specs_ok rfl (by conv => lhs; simp [diceB, c1, c2, c3, cm, hw]) fun _ => ?_ | refine ZL tm id_specs_ok rfl (by conv => lhs; simp [diceB, c1, c2, c3, cm, hw]) fun _ => ?_)
  simp only [diceB]
  first | exact retE2_ok false (by conv => lhs; simp [retE2, frqT, frqV, frqVs, frqL, frq1, reachE, blkRefs, outE, nodupE, firstE, seqO, expB2, expF, refsB, refsL, AV.refs, AV.ren, renL, renB, List.range, List.range.loop, resVs, resV, pack]) | fail "no return here"
end Go.Abs.Na
namespace Go.Abs.Na
open Go Go.Proofs Go.Abs
set_option maxRecDepth 100000
set_option maxHeartbeats 4000000
set_option linter.unusedSimpArgs false
set_option linter.unusedVariables false
attribute [local simp] instA
attribute [-simp] mkv
attribute [local simp] mkv_hd hdA_cons hdA_ob hdA_ob'
/-- Tokens, messages and an error. -/
def rU (n : Int) (l : List Tok) (ms : List Msg) (e : Int) : AV := .tup [.agg [.int .i64 n, .list 41 (l.map Tok.c)], .list 45 (ms.map Msg.v), .int .i64 e]
theorem msS : Try.prog.underlying 87 = some (.slice 50) := by kernel_rfl
theorem msC : Try.prog.cellsOf 50 = 45 := by kernel_rfl
theorem ms_nrm (ms : List Msg) : nrmV Try.prog 87 (.list 45 (ms.map Msg.v)) = .list 45 (ms.map Msg.v) := by
  rw [nrmV]
  simp only [msS, nrmRows_map msg_nrm]
theorem ms_nrm0 : nrmV Try.prog 87 .nils = .list 45 (([] : List Msg).map Msg.v) := by
  rw [nrmV]
  simp only [msS, msC, List.map_nil]
theorem rU_nrm (n : Int) (l : List Tok) (ms : List Msg) (e : Int) : nrmR Try.prog [69, 87, 51] (rU n l ms e) = rU n l ms e := by
  simp only [rU, nrmR, nrmL, tks_nrmV, ms_nrm]
  simp only [nrmV]
theorem rU_nrmN (n : Int) (l : List Tok) (e : Int) : nrmR Try.prog [69, 87, 51] (.tup [.agg [.int .i64 n, .list 41 (l.map Tok.c)], .nils, .int .i64 e]) = rU n l [] e := by
  simp only [rU, nrmR, nrmL, tks_nrmV, ms_nrm0]
  simp only [nrmV]
theorem rU_nrm0 (e : Int) : nrmR Try.prog [69, 87, 51] (.tup [.agg [.int .i64 0, .nils], .nils, .int .i64 e]) = rU 0 [] [] e := by
  simp only [rU, nrmR, nrmL, tks_nrmV0, ms_nrm0]
  simp only [nrmV]
theorem rU_nrm1 (n : Int) (l : List Tok) (f t k i m e : Int) : nrmR Try.prog [69, 87, 51] (.tup [.agg [.int .i64 n, .list 41 (l.map Tok.c)], .list 45 [.int .i64 f :: .int .i64 t :: .int .i64 k :: .int .u64 i :: .int .i64 m :: (zO ++ [.int .u64 0, .int .i64 0, .int .u64 0, .int .i64 0])], .int .i64 e]) = rU n l [⟨f, t, k, i, m, zOb, 0, 0, 0, 0⟩] e := by
  have h : nrmV Try.prog 87 (.list 45 [.int .i64 f :: .int .i64 t :: .int .i64 k :: .int .u64 i :: .int .i64 m :: (zO ++ [.int .u64 0, .int .i64 0, .int .u64 0, .int .i64 0])]) = .list 45 ([(⟨f, t, k, i, m, zOb, 0, 0, 0, 0⟩ : Msg)].map Msg.v) := by
    rw [nrmV]
    simp only [msS, nrmRows, msg_nrm0, List.map_cons, List.map_nil]
  simp only [rU, nrmR, nrmL, tks_nrmV, h]
  simp only [nrmV]
noncomputable def wnt (d : Tks) (id m home : Int) : Int × List Tok × List Msg × Int :=
  if valid d.node d.toks = false then (0, [], [], 1) else if id = 0 then (0, [], [], 2) else if okM m = false then (0, [], [], 2) else if okN home = false then (0, [], [], 2) else
    let t := (fnd id d.toks).getD (tok0 id)
    if m ≤ t.mode then (d.node, d.toks, [], 0) else if t.want ≠ 0 then (d.node, d.toks, [], 0) else (d.node, put { t with want := m } d.toks, [⟨d.node, home, 1, id, m, zOb, 0, 0, 0, 0⟩], 0)
noncomputable def wntS : SpecFn := mkS (fun d : Tks × Int × Int × Int => [d.1.v, .int .u64 d.2.1, .int .i64 d.2.2.1, .int .i64 d.2.2.2]) fun d => (rU (wnt d.1 d.2.1 d.2.2.1 d.2.2.2).1 (wnt d.1 d.2.1 d.2.2.1 d.2.2.2).2.1 (wnt d.1 d.2.1 d.2.2.1 d.2.2.2).2.2.1 (wnt d.1 d.2.1 d.2.2.1 d.2.2.2).2.2.2, [])
noncomputable def wn_specs : NL Spec := [(78, ⟨1, vaS⟩), (79, ⟨1, boS okM⟩), (95, ⟨1, boS okN⟩), (80, ⟨1, fndS⟩), (81, ⟨1, putS⟩)]
theorem wn_specs_ok : ∀ p ∈ wn_specs, FnC Try.prog p.1 p.2.fn := by
  simp only [wn_specs, List.mem_cons, List.not_mem_nil, or_false]
  rintro p (rfl | rfl | rfl | rfl | rfl)
  · exact var_ok
  · exact mo2_ok
  · exact no2_ok
  · exact fnd_ok
  · exact put_ok
attribute [local simp] wn_specs
theorem wnt_ok : FnC Try.prog 71 wntS := by
  refine FnC.walkN 71 (fn := Try.f71) [69, 87, 51] Try.func71 rfl (by kernel_rfl) (fun d => ?_) (fun d => ⟨_, rU_nrm _ _ _ _⟩)
  obtain ⟨d, id, m, home⟩ := d
  have cv := vaS_eq d
  have cm := boS_eq okM m
  have cn := boS_eq okN home
  have cf := fndS_eq d id
  have cp := putS_eq d { (fnd id d.toks).getD (tok0 id) with want := m }
  simp only [Tks.v] at cv cf cp
  change W _ (RetNf _ _ _ (rU (wnt d id m home).1 (wnt d id m home).2.1 (wnt d id m home).2.2.1 (wnt d id m home).2.2.2) []) _ _ ⟨54, [(0, .agg [.int .i64 d.node, .list 41 (d.toks.map Tok.c)]), (1, .int .u64 id), (2, .int .i64 m), (3, .int .i64 home)], []⟩
  generalize hR : wnt d id m home = R
  unfold wnt at hR
  dsimp only at hR
  generalize put { (fnd id d.toks).getD (tok0 id) with want := m } d.toks = L at *
  generalize (fnd id d.toks).getD (tok0 id) = t at *
  obtain ⟨a1, a2, o, a3, a4, a5⟩ := t
  obtain ⟨nd, l, hl⟩ := d
  dsimp only [Tok.c] at cv cm cn cf cp hR ⊢
  generalize valid nd l = va at *
  generalize okM m = om at *
  generalize okN home = oh at *
  cases va with
  | false =>
    rw [if_pos rfl] at hR
    subst hR
    repeat (first | refine ZS ?_ | refine ZK tm wn_specs_ok rfl (by conv => lhs; simp [cv]) fun _ => ?_ | refine ZL tm wn_specs_ok rfl (by conv => lhs; simp [cv]) fun _ => ?_)
    refine ⟨_, ?_, rU_nrm0 1⟩
    first | exact Ret.dataR rfl (by conv => lhs; simp) (by conv => lhs; simp) (by first | rfl | simp [inlT, inlV]) | fail "no return here"
  | true =>
    rw [if_neg (by decide)] at hR
    by_cases hi : id = 0
    · rw [if_pos hi] at hR
      subst hR
      have e1 : (id == 0) = true := by simp [hi]
      repeat (first | refine ZS ?_ | refine ZK tm wn_specs_ok rfl (by conv => lhs; simp [cv, e1]) fun _ => ?_ | refine ZL tm wn_specs_ok rfl (by conv => lhs; simp [cv, e1]) fun _ => ?_)
      refine ⟨_, ?_, rU_nrm0 2⟩
      first | exact Ret.dataR rfl (by conv => lhs; simp) (by conv => lhs; simp) (by first | rfl | simp [inlT, inlV]) | fail "no return here"
    · rw [if_neg hi] at hR
      have e1 : (id == 0) = false := by simp [hi]
      cases om with
      | false =>
        rw [if_pos rfl] at hR
        subst hR
        repeat (first | refine ZS ?_ | refine ZK tm wn_specs_ok rfl (by conv => lhs; simp [cv, e1, cm]) fun _ => ?_ | refine ZL tm wn_specs_ok rfl (by conv => lhs; simp [cv, e1, cm]) fun _ => ?_)
        refine ⟨_, ?_, rU_nrm0 2⟩
        first | exact Ret.dataR rfl (by conv => lhs; simp) (by conv => lhs; simp) (by first | rfl | simp [inlT, inlV]) | fail "no return here"
      | true =>
        rw [if_neg (by decide)] at hR
        cases oh with
        | false =>
          rw [if_pos rfl] at hR
          subst hR
          repeat (first | refine ZS ?_ | refine ZK tm wn_specs_ok rfl (by conv => lhs; simp [cv, e1, cm, cn]) fun _ => ?_ | refine ZL tm wn_specs_ok rfl (by conv => lhs; simp [cv, e1, cm, cn]) fun _ => ?_)
          refine ⟨_, ?_, rU_nrm0 2⟩
          first | exact Ret.dataR rfl (by conv => lhs; simp) (by conv => lhs; simp) (by first | rfl | simp [inlT, inlV]) | fail "no return here"
        | true =>
          rw [if_neg (by decide)] at hR
          by_cases hg : m ≤ a2
          · rw [if_pos hg] at hR
            subst hR
            repeat (first | refine ZS ?_ | refine ZK tm wn_specs_ok rfl (by conv => lhs; simp [cv, e1, cm, cn, cf, hg]) fun _ => ?_ | refine ZL tm wn_specs_ok rfl (by conv => lhs; simp [cv, e1, cm, cn, cf, hg]) fun _ => ?_)
            refine ⟨_, ?_, rU_nrmN nd l 0⟩
            first | exact Ret.dataR rfl (by conv => lhs; simp) (by conv => lhs; simp) (by first | rfl | simp [inlT, inlV]) | fail "no return here"
          · rw [if_neg hg] at hR
            by_cases hw : a3 = 0
            · have e3 : (a3 != 0) = false := by simp [hw]
              rw [if_neg (by simp [hw])] at hR
              subst hR
              repeat (first | refine ZS ?_ | refine ZK tm wn_specs_ok rfl (by conv => lhs; simp [cv, e1, cm, cn, cf, hg, e3, cp, m1]) fun _ => ?_ | refine ZL tm wn_specs_ok rfl (by conv => lhs; simp [cv, e1, cm, cn, cf, hg, e3, cp, m1]) fun _ => ?_)
              refine ⟨_, ?_, rU_nrm1 nd L nd home 1 id m 0⟩
              simp only [zO, List.cons_append, List.nil_append]
              first | exact Ret.dataR rfl (by conv => lhs; simp) (by conv => lhs; simp) (by first | rfl | simp [inlT, inlV]) | fail "no return here"
            · have e3 : (a3 != 0) = true := by simp [hw]
              rw [if_pos hw] at hR
              subst hR
              repeat (first | refine ZS ?_ | refine ZK tm wn_specs_ok rfl (by conv => lhs; simp [cv, e1, cm, cn, cf, hg, e3]) fun _ => ?_ | refine ZL tm wn_specs_ok rfl (by conv => lhs; simp [cv, e1, cm, cn, cf, hg, e3]) fun _ => ?_)
              refine ⟨_, ?_, rU_nrmN nd l 0⟩
              first | exact Ret.dataR rfl (by conv => lhs; simp) (by conv => lhs; simp) (by first | rfl | simp [inlT, inlV]) | fail "no return here"
end Go.Abs.Na
namespace Go.Abs.Na
open Go Go.Proofs Go.Abs
set_option maxRecDepth 100000
set_option maxHeartbeats 4000000
set_option linter.unusedSimpArgs false
set_option linter.unusedVariables false
attribute [local simp] instA
attribute [-simp] mkv
attribute [local simp] mkv_hd hdA_cons hdA_ob hdA_ob'
noncomputable def grtT (t : Tok) (m : Msg) : Tok := { t with mode := m.mode, obj := m.obj, want := if t.want ≤ m.mode then 0 else t.want }
noncomputable def grt (d : Tks) (m : Msg) : Int × List Tok × Int :=
  if valid d.node d.toks = false then (0, [], 1) else if m.kind ≠ 2 then (0, [], 10) else if m.to ≠ d.node then (0, [], 10) else if okM m.mode = false then (0, [], 10) else if zO? m.obj = false ∧ oid m.obj ≠ m.id then (0, [], 10) else
    let t := (fnd m.id d.toks).getD (tok0 m.id)
    if t.want = 0 then (0, [], 8) else (d.node, put (grtT t m) d.toks, 0)
noncomputable def grtS : SpecFn := mkS (fun d : Tks × Msg => [d.1.v, .agg d.2.v]) fun d => (rT (grt d.1 d.2).1 (grt d.1 d.2).2.1 (grt d.1 d.2).2.2, [])
noncomputable def gr_specs : NL Spec := [(78, ⟨1, vaS⟩), (79, ⟨1, boS okM⟩), (84, ⟨1, zeS⟩), (80, ⟨1, fndS⟩), (81, ⟨1, putS⟩)]
theorem gr_specs_ok : ∀ p ∈ gr_specs, FnC Try.prog p.1 p.2.fn := by
  simp only [gr_specs, List.mem_cons, List.not_mem_nil, or_false]
  rintro p (rfl | rfl | rfl | rfl | rfl)
  · exact var_ok
  · exact mo2_ok
  · exact zer_ok
  · exact fnd_ok
  · exact put_ok
attribute [local simp] gr_specs
theorem grt_ok : FnC Try.prog 72 grtS := by
  refine FnC.walkN 72 (fn := Try.f72) [69, 51] Try.func72 rfl (by kernel_rfl) (fun d => ?_) (fun d => ⟨_, rT_nrm _ _ _⟩)
  obtain ⟨d, ⟨b1, b2, b3, b4, b5, q, b6, b7, b8, b9⟩⟩ := d
  have cv := vaS_eq d
  have cm := boS_eq okM b5
  have cz := zeS_eq q
  have cf := fndS_eq d b4
  have cp := putS_eq d (grtT ((fnd b4 d.toks).getD (tok0 b4)) ⟨b1, b2, b3, b4, b5, q, b6, b7, b8, b9⟩)
  simp only [Tks.v] at cv cf cp
  change W _ (RetNf _ _ _ (rT (grt d ⟨b1, b2, b3, b4, b5, q, b6, b7, b8, b9⟩).1 (grt d ⟨b1, b2, b3, b4, b5, q, b6, b7, b8, b9⟩).2.1 (grt d ⟨b1, b2, b3, b4, b5, q, b6, b7, b8, b9⟩).2.2) []) _ _ ⟨65, [(0, .agg [.int .i64 d.node, .list 41 (d.toks.map Tok.c)]), (1, .agg (.int .i64 b1 :: .int .i64 b2 :: .int .i64 b3 :: .int .u64 b4 :: .int .i64 b5 :: (q.cells ++ [.int .u64 b6, .int .i64 b7, .int .u64 b8, .int .i64 b9])))], []⟩
  generalize hR : grt d ⟨b1, b2, b3, b4, b5, q, b6, b7, b8, b9⟩ = R
  unfold grt at hR
  dsimp only at hR
  generalize put (grtT ((fnd b4 d.toks).getD (tok0 b4)) ⟨b1, b2, b3, b4, b5, q, b6, b7, b8, b9⟩) d.toks = L at *
  generalize (fnd b4 d.toks).getD (tok0 b4) = t at *
  obtain ⟨a1, a2, o, a3, a4, a5⟩ := t
  obtain ⟨nd, l, hl⟩ := d
  dsimp only [Tok.c, grtT] at cv cm cz cf cp hR ⊢
  generalize valid nd l = va at *
  generalize okM b5 = om at *
  generalize zO? q = z at *
  generalize hqi : oid q = qi at *
  cases va with
  | false =>
    rw [if_pos rfl] at hR
    subst hR
    repeat (first | refine ZS ?_ | refine ZK tm gr_specs_ok rfl (by conv => lhs; simp [cv]) fun _ => ?_ | refine ZL tm gr_specs_ok rfl (by conv => lhs; simp [cv]) fun _ => ?_)
    refine ⟨_, ?_, rT_nrm0 1⟩
    first | exact Ret.dataR rfl (by conv => lhs; simp) (by conv => lhs; simp) (by first | rfl | simp [inlT, inlV]) | fail "no return here"
  | true =>
    rw [if_neg (by decide)] at hR
    by_cases hi : b3 ≠ 2
    · rw [if_pos hi] at hR
      subst hR
      have e1 : (b3 != 2) = true := by simp [hi]
      repeat (first | refine ZS ?_ | refine ZK tm gr_specs_ok rfl (by conv => lhs; simp [cv, e1]) fun _ => ?_ | refine ZL tm gr_specs_ok rfl (by conv => lhs; simp [cv, e1]) fun _ => ?_)
      refine ⟨_, ?_, rT_nrm0 10⟩
      first | exact Ret.dataR rfl (by conv => lhs; simp) (by conv => lhs; simp) (by first | rfl | simp [inlT, inlV]) | fail "no return here"
    · have hi : b3 = 2 := Decidable.not_not.1 hi
      rw [if_neg (by simp [hi])] at hR
      have e1 : (b3 != 2) = false := by simp [hi]
      by_cases hj : b2 ≠ nd
      · rw [if_pos hj] at hR
        subst hR
        have e2 : (b2 != nd) = true := by simp [hj]
        repeat (first | refine ZS ?_ | refine ZK tm gr_specs_ok rfl (by conv => lhs; simp [cv, e1, e2]) fun _ => ?_ | refine ZL tm gr_specs_ok rfl (by conv => lhs; simp [cv, e1, e2]) fun _ => ?_)
        refine ⟨_, ?_, rT_nrm0 10⟩
        first | exact Ret.dataR rfl (by conv => lhs; simp) (by conv => lhs; simp) (by first | rfl | simp [inlT, inlV]) | fail "no return here"
      · have hj : b2 = nd := Decidable.not_not.1 hj
        rw [if_neg (by simp [hj])] at hR
        have e2 : (b2 != nd) = false := by simp [hj]
        cases om with
        | false =>
          rw [if_pos rfl] at hR
          subst hR
          repeat (first | refine ZS ?_ | refine ZK tm gr_specs_ok rfl (by conv => lhs; simp [cv, e1, e2, cm]) fun _ => ?_ | refine ZL tm gr_specs_ok rfl (by conv => lhs; simp [cv, e1, e2, cm]) fun _ => ?_)
          refine ⟨_, ?_, rT_nrm0 10⟩
          first | exact Ret.dataR rfl (by conv => lhs; simp) (by conv => lhs; simp) (by first | rfl | simp [inlT, inlV]) | fail "no return here"
        | true =>
          rw [if_neg (by decide)] at hR
          by_cases hz : z = false ∧ qi ≠ b4
          · rw [if_pos hz] at hR
            obtain ⟨rfl, hq⟩ := hz
            subst hR
            have e3 : (qi != b4) = true := by simp [hq]
            repeat (first | refine ZS ?_ | refine ZK tm gr_specs_ok rfl (by conv => lhs; simp [cv, e1, e2, cm, cz, hqi, e3]) fun _ => ?_ | refine ZL tm gr_specs_ok rfl (by conv => lhs; simp [cv, e1, e2, cm, cz, hqi, e3]) fun _ => ?_)
            refine ⟨_, ?_, rT_nrm0 10⟩
            first | exact Ret.dataR rfl (by conv => lhs; simp) (by conv => lhs; simp) (by first | rfl | simp [inlT, inlV]) | fail "no return here"
          · rw [if_neg hz] at hR
            have hz2 : z = true ∨ (z = false ∧ (qi != b4) = false) := by
              cases z with
              | true => exact .inl rfl
              | false => exact .inr ⟨rfl, by simp only [true_and, Decidable.not_not, ne_eq] at hz; simp [hz]⟩
            by_cases hw : a3 = 0
            · rw [if_pos hw] at hR
              subst hR
              have e4 : (a3 == 0) = true := by simp [hw]
              rcases hz2 with rfl | ⟨rfl, e3⟩
              · repeat (first | refine ZS ?_ | refine ZK tm gr_specs_ok rfl (by conv => lhs; simp [cv, e1, e2, cm, cz, cf, e4]) fun _ => ?_ | refine ZL tm gr_specs_ok rfl (by conv => lhs; simp [cv, e1, e2, cm, cz, cf, e4]) fun _ => ?_)
                refine ⟨_, ?_, rT_nrm0 8⟩
                first | exact Ret.dataR rfl (by conv => lhs; simp) (by conv => lhs; simp) (by first | rfl | simp [inlT, inlV]) | fail "no return here"
              · repeat (first | refine ZS ?_ | refine ZK tm gr_specs_ok rfl (by conv => lhs; simp [cv, e1, e2, cm, cz, hqi, e3, cf, e4]) fun _ => ?_ | refine ZL tm gr_specs_ok rfl (by conv => lhs; simp [cv, e1, e2, cm, cz, hqi, e3, cf, e4]) fun _ => ?_)
                refine ⟨_, ?_, rT_nrm0 8⟩
                first | exact Ret.dataR rfl (by conv => lhs; simp) (by conv => lhs; simp) (by first | rfl | simp [inlT, inlV]) | fail "no return here"
            · rw [if_neg hw] at hR
              subst hR
              have e4 : (a3 == 0) = false := by simp [hw]
              by_cases hle : a3 ≤ b5
              · rw [if_pos hle] at cp
                rcases hz2 with rfl | ⟨rfl, e3⟩
                · repeat (first | refine ZS ?_ | refine ZK tm gr_specs_ok rfl (by conv => lhs; simp [cv, e1, e2, cm, cz, cf, e4, hle, cp]) fun _ => ?_ | refine ZL tm gr_specs_ok rfl (by conv => lhs; simp [cv, e1, e2, cm, cz, cf, e4, hle, cp]) fun _ => ?_)
                  refine ⟨_, ?_, rT_nrm nd L 0⟩
                  simp only [rT]
                  first | exact Ret.dataR rfl (by conv => lhs; simp) (by conv => lhs; simp) (by first | rfl | simp [inlT, inlV]) | fail "no return here"
                · repeat (first | refine ZS ?_ | refine ZK tm gr_specs_ok rfl (by conv => lhs; simp [cv, e1, e2, cm, cz, hqi, e3, cf, e4, hle, cp]) fun _ => ?_ | refine ZL tm gr_specs_ok rfl (by conv => lhs; simp [cv, e1, e2, cm, cz, hqi, e3, cf, e4, hle, cp]) fun _ => ?_)
                  refine ⟨_, ?_, rT_nrm nd L 0⟩
                  simp only [rT]
                  first | exact Ret.dataR rfl (by conv => lhs; simp) (by conv => lhs; simp) (by first | rfl | simp [inlT, inlV]) | fail "no return here"
              · rw [if_neg hle] at cp
                rcases hz2 with rfl | ⟨rfl, e3⟩
                · repeat (first | refine ZS ?_ | refine ZK tm gr_specs_ok rfl (by conv => lhs; simp [cv, e1, e2, cm, cz, cf, e4, hle, cp]) fun _ => ?_ | refine ZL tm gr_specs_ok rfl (by conv => lhs; simp [cv, e1, e2, cm, cz, cf, e4, hle, cp]) fun _ => ?_)
                  refine ⟨_, ?_, rT_nrm nd L 0⟩
                  simp only [rT]
                  first | exact Ret.dataR rfl (by conv => lhs; simp) (by conv => lhs; simp) (by first | rfl | simp [inlT, inlV]) | fail "no return here"
                · repeat (first | refine ZS ?_ | refine ZK tm gr_specs_ok rfl (by conv => lhs; simp [cv, e1, e2, cm, cz, hqi, e3, cf, e4, hle, cp]) fun _ => ?_ | refine ZL tm gr_specs_ok rfl (by conv => lhs; simp [cv, e1, e2, cm, cz, hqi, e3, cf, e4, hle, cp]) fun _ => ?_)
                  refine ⟨_, ?_, rT_nrm nd L 0⟩
                  simp only [rT]
                  first | exact Ret.dataR rfl (by conv => lhs; simp) (by conv => lhs; simp) (by first | rfl | simp [inlT, inlV]) | fail "no return here"
end Go.Abs.Na
