/- Tokens: putting one among others. Conditions: none. -/
import Derived.Test.YtbndcamifghfaaaNa3
namespace Go.Abs.Na
open Go Go.Proofs Go.Abs
set_option maxRecDepth 100000
set_option maxHeartbeats 4000000
set_option linter.unusedSimpArgs false
set_option linter.unusedVariables false
/-- The rest of a list with a token put into it; 'done': it is there already, or is not to be put. -/
def putL (t : Tok) : Bool → List Tok → List Tok
  | done, [] => if done = true then [] else [t]
  | done, r :: rs => (if done = false ∧ t.id ≤ r.id then [t] else []) ++ ((if r.id = t.id then [] else [r]) ++ putL t (done || decide (t.id ≤ r.id)) rs)
def Tok.gone (t : Tok) : Bool := t.mode == 0 && t.want == 0
def put (t : Tok) (l : List Tok) : List Tok := putL t t.gone l
theorem putL_drop {t r : Tok} {d : Bool} {l : List Tok} {k : Nat} (h : l[k]? = some r) : putL t d (l.drop k) = (if d = false ∧ t.id ≤ r.id then [t] else []) ++ ((if r.id = t.id then [] else [r]) ++ putL t (d || decide (t.id ≤ r.id)) (l.drop (k + 1))) := by
  obtain ⟨hk, rfl⟩ := List.getElem?_eq_some_iff.1 h
  rw [List.drop_eq_getElem_cons hk, putL]
noncomputable def putS : SpecFn := mkS (fun d : Tks × Tok => [d.1.v, .agg d.2.c]) fun d => (.agg [.int .i64 d.1.node, .list 41 ((put d.2 d.1.toks).map Tok.c)], [])
theorem putS_eq (d : Tks) (t : Tok) : putS [d.v, .agg t.c] [] = some (.agg [.int .i64 d.node, .list 41 ((put t d.toks).map Tok.c)], []) :=
  mkS_eq (enc := fun d : Tks × Tok => [d.1.v, .agg d.2.c]) (fun x y h => by
    obtain ⟨a, b⟩ := x
    obtain ⟨a', b'⟩ := y
    simp only [List.cons.injEq, AV.agg.injEq, true_and, and_true] at h
    obtain ⟨h, h2⟩ := h
    cases Tks.v_inj h
    cases Tok.c_inj h2
    rfl) (d, t)
/-- A list that is added to. -/
def tkB (g : Nat) (l : List Tok) : ABlk := { gen := g, kind := 2, elem := 77, size := 41, inl := true, rows := l.map Tok.c }
def IsAcc (h : NL ABlk) (P : AV) (l : List Tok) : Prop := (P = .nils ∧ l = []) ∨ ∃ g, (P = .sl 656 g 0 l.length ∧ lk h 656 = some (tkB g l)) ∨ (P = .sl 832 g 0 l.length ∧ lk h 832 = some (tkB g l))
attribute [local simp] instA
theorem m1 : (1 : Nat) ≤ maxLen := by decide
theorem m2 : (2 : Nat) ≤ maxLen := by decide
theorem first_all {n : Nat} {l : List (List AV)} (h : l.length = n) : firstRows n l = l := by
  subst h
  simp [firstRows]
theorem take_snoc (acc : List Tok) (x : List AV) : (acc.map Tok.c ++ [x]).take (acc.length + 1) = acc.map Tok.c ++ [x] := List.take_of_length_le (by simp)
theorem take_acc (acc : List Tok) : (acc.map Tok.c).take acc.length = acc.map Tok.c := List.take_of_length_le (by simp)
theorem tks_nrm0 (n : Int) : nrmR Try.prog [69] (.agg [.int .i64 n, .nils]) = .agg [.int .i64 n, .list 41 ([].map Tok.c)] := by
  have hc : Try.prog.cellsOf 77 = 41 := by kernel_rfl
  simp [nrmR, nrmV, nrmL, hc]
theorem bytesT {n : Nat} (h : n ≤ 18001) : n * 496 ≤ 140737488355328 := by omega
theorem bytesT1 {n : Nat} (h : n ≤ 18001) : (n + 1) * 496 ≤ 140737488355328 := by omega

structure PI (nd : Int) (l : List Tok) (t : Tok) (gone : Bool) (k : Nat) (h : NL ABlk) (P : AV) (acc : List Tok) (dn : Bool) : Prop where
  hk : k ≤ l.length
  len : acc.length ≤ 2 * k
  eq : putL t gone l = acc ++ putL t dn (l.drop k)
  h64 : lk h 64 = some { gen := 1, kind := 2, elem := 77, size := 41, inl := false, rows := [.int .u64 t.id :: .int .i64 t.mode :: (t.obj.cells ++ [.int .i64 t.want, .bool t.pin, .bool t.due])] }
  h80 : lk h 80 = some { gen := 1, kind := 2, elem := 69, size := 2, inl := false, rows := [[.int .i64 0, .nils]] }
  h96 : lk h 96 = some { gen := 1, kind := 2, elem := 69, size := 2, inl := false, rows := [[.int .i64 nd, P]] }
  hP : IsAcc h P acc
theorem put_ok : FnC Try.prog 81 putS := by
  refine FnC.walkN 81 (fn := Try.f81) [69] Try.func81 rfl (by kernel_rfl) (fun d => ?_) (fun d => ⟨_, tks_nrmR _ _⟩)
  obtain ⟨⟨nd, l, hl⟩, ⟨b1, b2, o, b3, b4, b5⟩⟩ := d
  change W _ (RetNf _ _ _ (.agg [.int .i64 nd, .list 41 ((putL ⟨b1, b2, o, b3, b4, b5⟩ (b2 == 0 && b3 == 0) l).map Tok.c)]) []) _ _ ⟨63, [(0, .agg [.int .i64 nd, .list 41 (l.map Tok.c)]), (1, .agg (.int .u64 b1 :: .int .i64 b2 :: (o.cells ++ [.int .i64 b3, .bool b4, .bool b5])))], []⟩
  have cap : l.length ≤ 9223372036854775807 := by have := capT (n := l.length) (by omega); exact this
  cases h1 : (b2 == 0) with
  | false =>
    rw [Bool.false_and]
    repeat (first | refine ZS ?_ | refine ZK tm no_specs rfl (by conv => lhs; simp [cap, h1]) fun _ => ?_ | refine ZL tm no_specs rfl (by conv => lhs; simp [cap, h1]) fun _ => ?_)
    refine W.loop rfl (ι := { q : Nat × NL ABlk × AV × List Tok × Bool // PI nd l ⟨b1, b2, o, b3, b4, b5⟩ (false) q.1 q.2.1 q.2.2.1 q.2.2.2.1 q.2.2.2.2 })
      (fun q => ⟨63, [(3, .ptr 64 1 0 0), (4, .ptr 80 1 0 0), (5, .ptr 96 1 0 0), (6, .bool q.1.2.2.2.2), (21, .list 41 (l.map Tok.c)), (22, .int .i64 l.length), (23, .int .i64 (q.1.1 : Nat))], q.1.2.1⟩) (fun q => l.length - q.1.1)
      ⟨(0, _, .nils, [], false), by simp, by simp, by rfl, rfl, rfl, rfl, .inl ⟨rfl, rfl⟩⟩ (AS.le_of rfl ⟨rfl, rfl, rfl, rfl, rfl, rfl, rfl, trivial⟩ (fun _ => rfl)) ?_
    rintro ⟨⟨k, h, P, acc, dn⟩, ⟨hk, hl2, he, h64, h80, h96, hP⟩⟩
    dsimp only at hk hl2 he h64 h80 h96 hP ⊢
    by_cases hk2 : k = l.length
    · subst hk2
      rw [List.drop_length] at he
      have y1 : acc.length ≤ maxLen := by simp only [maxLen]; omega
      have y2 : (acc.length + 1) * 496 ≤ 140737488355328 := bytesT1 (by omega)
      have y4 : acc.length + 1 ≤ maxLen := by simp only [maxLen]; omega
      cases dn with
      | true =>
        simp only [putL, if_true, if_false, Bool.false_eq_true, List.append_nil] at he
        rw [he]
        rcases hP with ⟨rfl, rfl⟩ | ⟨g, ⟨rfl, hb⟩ | ⟨rfl, hb⟩⟩
        · repeat (first | refine ZS ?_ | refine ZK tm no_specs rfl (by conv => lhs; simp [cap, h64, h80, h96, y1, y2, y4, m1, m2]) fun _ => ?_ | refine ZL tm no_specs rfl (by conv => lhs; simp [cap, h64, h80, h96, y1, y2, y4, m1, m2]) fun _ => ?_)
          refine ⟨_, ?_, tks_nrm0 nd⟩
          first | exact Ret.dataR rfl (by conv => lhs; simp [h96]) (by conv => lhs; simp [h96]) (by first | rfl | simp [inlT, inlV]) | fail "no return here"
        · repeat (first | refine ZS ?_ | refine ZK tm no_specs rfl (by conv => lhs; simp [cap, h64, h80, h96, y1, y2, y4, m1, m2, hb, tkB]) fun _ => ?_ | refine ZL tm no_specs rfl (by conv => lhs; simp [cap, h64, h80, h96, y1, y2, y4, m1, m2, hb, tkB]) fun _ => ?_)
          refine ⟨_, ?_, tks_nrmR nd _⟩
          try simp only [List.map_append, List.map_cons, List.map_nil, Tok.c, List.nil_append]
          first | exact Ret.dataR rfl (by conv => lhs; simp [h96, y1, y4, m1, hb, tkB, first_all, take_snoc, take_acc]) (by conv => lhs; simp [h96, y1, y4, m1, hb, tkB, first_all, take_snoc, take_acc]) (by first | rfl | simp [inlT, inlV]) | fail "no return here"
        · repeat (first | refine ZS ?_ | refine ZK tm no_specs rfl (by conv => lhs; simp [cap, h64, h80, h96, y1, y2, y4, m1, m2, hb, tkB]) fun _ => ?_ | refine ZL tm no_specs rfl (by conv => lhs; simp [cap, h64, h80, h96, y1, y2, y4, m1, m2, hb, tkB]) fun _ => ?_)
          refine ⟨_, ?_, tks_nrmR nd _⟩
          try simp only [List.map_append, List.map_cons, List.map_nil, Tok.c, List.nil_append]
          first | exact Ret.dataR rfl (by conv => lhs; simp [h96, y1, y4, m1, hb, tkB, first_all, take_snoc, take_acc]) (by conv => lhs; simp [h96, y1, y4, m1, hb, tkB, first_all, take_snoc, take_acc]) (by first | rfl | simp [inlT, inlV]) | fail "no return here"
      | false =>
        simp only [putL, if_true, if_false, Bool.false_eq_true, List.append_nil] at he
        rw [he]
        rcases hP with ⟨rfl, rfl⟩ | ⟨g, ⟨rfl, hb⟩ | ⟨rfl, hb⟩⟩
        · repeat (first | refine ZS ?_ | refine ZK tm no_specs rfl (by conv => lhs; simp [cap, h64, h80, h96, y1, y2, y4, m1, m2]) fun _ => ?_ | refine ZL tm no_specs rfl (by conv => lhs; simp [cap, h64, h80, h96, y1, y2, y4, m1, m2]) fun _ => ?_)
          refine ⟨_, ?_, tks_nrmR nd _⟩
          try simp only [List.map_append, List.map_cons, List.map_nil, Tok.c, List.nil_append]
          first | exact Ret.dataR rfl (by conv => lhs; simp [h96, y1, y4, m1, first_all, take_snoc, take_acc]) (by conv => lhs; simp [h96, y1, y4, m1, first_all, take_snoc, take_acc]) (by first | rfl | simp [inlT, inlV]) | fail "no return here"
        · repeat (first | refine ZS ?_ | refine ZK tm no_specs rfl (by conv => lhs; simp [cap, h64, h80, h96, y1, y2, y4, m1, m2, hb, tkB]) fun _ => ?_ | refine ZL tm no_specs rfl (by conv => lhs; simp [cap, h64, h80, h96, y1, y2, y4, m1, m2, hb, tkB]) fun _ => ?_)
          refine ⟨_, ?_, tks_nrmR nd _⟩
          try simp only [List.map_append, List.map_cons, List.map_nil, Tok.c, List.nil_append]
          first | exact Ret.dataR rfl (by conv => lhs; simp [h96, y1, y4, m1, hb, tkB, first_all, take_snoc, take_acc]) (by conv => lhs; simp [h96, y1, y4, m1, hb, tkB, first_all, take_snoc, take_acc]) (by first | rfl | simp [inlT, inlV]) | fail "no return here"
        · repeat (first | refine ZS ?_ | refine ZK tm no_specs rfl (by conv => lhs; simp [cap, h64, h80, h96, y1, y2, y4, m1, m2, hb, tkB]) fun _ => ?_ | refine ZL tm no_specs rfl (by conv => lhs; simp [cap, h64, h80, h96, y1, y2, y4, m1, m2, hb, tkB]) fun _ => ?_)
          refine ⟨_, ?_, tks_nrmR nd _⟩
          try simp only [List.map_append, List.map_cons, List.map_nil, Tok.c, List.nil_append]
          first | exact Ret.dataR rfl (by conv => lhs; simp [h96, y1, y4, m1, hb, tkB, first_all, take_snoc, take_acc]) (by conv => lhs; simp [h96, y1, y4, m1, hb, tkB, first_all, take_snoc, take_acc]) (by first | rfl | simp [inlT, inlV]) | fail "no return here"
    · have hlt : k < l.length := by omega
      obtain ⟨r, hr⟩ := get_lt hlt
      have hm : (l.map Tok.c)[k]? = some r.c := by rw [List.getElem?_map, hr]; rfl
      have q1 : (k : Int) < l.length := by omega
      have q2 : ¬ l.length ≤ k := by omega
      have hw : IntKind.i64.wrap ((k : Int) + 1) = ((k + 1 : Nat) : Int) := w64 (by omega) (by omega)
      rw [putL_drop hr] at he
      obtain ⟨a1, a2, p, a3, a4, a5⟩ := r
      dsimp only at he
      have y1 : acc.length ≤ maxLen := by simp only [maxLen]; omega
      have y2 : (acc.length + 1) * 496 ≤ 140737488355328 := bytesT1 (by omega)
      have y4 : acc.length + 1 ≤ maxLen := by simp only [maxLen]; omega
      have y5 : acc.length + 1 + 1 ≤ maxLen := by simp only [maxLen]; omega
      have y3 : (acc.length + 1 + 1) * 496 ≤ 140737488355328 := bytesT1 (by omega)
      cases dn with
      | true =>
        by_cases hi : a1 = b1
        · have hb1 : (a1 != b1) = false := by simp [hi]
          rcases hP with ⟨rfl, rfl⟩ | ⟨g, ⟨rfl, hb⟩ | ⟨rfl, hb⟩⟩
          · repeat (first | refine ZS ?_ | refine ZK tm no_specs rfl (by conv => lhs; simp [q1, q2, hm, h64, h80, h96, hw, y1, y2, y3, y4, y5, m1, m2, hb1]) fun _ => ?_ | refine ZL tm no_specs rfl (by conv => lhs; simp [q1, q2, hm, h64, h80, h96, hw, y1, y2, y3, y4, y5, m1, m2, hb1]) fun _ => ?_)
            exact ⟨⟨(k + 1, _, .nils, [], true), ⟨hlt, by simp only [List.length_append, List.length_cons, List.length_nil]; first | omega | (simp only [List.length_nil] at hl2; omega), by rw [he]; simp [hi], by simp [lk_st, h64], by simp [lk_st, h80], by simp [lk_st, h96], .inl ⟨rfl, rfl⟩⟩⟩, by dsimp only; omega, AS.le_of rfl ⟨rfl, rfl, rfl, rfl, rfl, rfl, rfl, trivial⟩ (fun _ => rfl)⟩
          · repeat (first | refine ZS ?_ | refine ZK tm no_specs rfl (by conv => lhs; simp [q1, q2, hm, h64, h80, h96, hw, y1, y2, y3, y4, y5, m1, m2, hb, tkB, hb1]) fun _ => ?_ | refine ZL tm no_specs rfl (by conv => lhs; simp [q1, q2, hm, h64, h80, h96, hw, y1, y2, y3, y4, y5, m1, m2, hb, tkB, hb1]) fun _ => ?_)
            exact ⟨⟨(k + 1, _, .sl 656 (g) 0 (acc.length), acc, true), ⟨hlt, by simp only [List.length_append, List.length_cons, List.length_nil]; first | omega | (simp only [List.length_nil] at hl2; omega), by rw [he]; simp [hi], by simp [lk_st, h64], by simp [lk_st, h80], by simp [lk_st, h96], .inr ⟨g, .inl ⟨by simp, by simp [lk_st, tkB, first_all, hb]⟩⟩⟩⟩, by dsimp only; omega, AS.le_of rfl ⟨rfl, rfl, rfl, rfl, rfl, rfl, rfl, trivial⟩ (fun _ => rfl)⟩
          · repeat (first | refine ZS ?_ | refine ZK tm no_specs rfl (by conv => lhs; simp [q1, q2, hm, h64, h80, h96, hw, y1, y2, y3, y4, y5, m1, m2, hb, tkB, hb1]) fun _ => ?_ | refine ZL tm no_specs rfl (by conv => lhs; simp [q1, q2, hm, h64, h80, h96, hw, y1, y2, y3, y4, y5, m1, m2, hb, tkB, hb1]) fun _ => ?_)
            exact ⟨⟨(k + 1, _, .sl 832 (g) 0 (acc.length), acc, true), ⟨hlt, by simp only [List.length_append, List.length_cons, List.length_nil]; first | omega | (simp only [List.length_nil] at hl2; omega), by rw [he]; simp [hi], by simp [lk_st, h64], by simp [lk_st, h80], by simp [lk_st, h96], .inr ⟨g, .inr ⟨by simp, by simp [lk_st, tkB, first_all, hb]⟩⟩⟩⟩, by dsimp only; omega, AS.le_of rfl ⟨rfl, rfl, rfl, rfl, rfl, rfl, rfl, trivial⟩ (fun _ => rfl)⟩
        · have hb1 : (a1 != b1) = true := by simp [hi]
          rcases hP with ⟨rfl, rfl⟩ | ⟨g, ⟨rfl, hb⟩ | ⟨rfl, hb⟩⟩
          · repeat (first | refine ZS ?_ | refine ZK tm no_specs rfl (by conv => lhs; simp [q1, q2, hm, h64, h80, h96, hw, y1, y2, y3, y4, y5, m1, m2, hb1]) fun _ => ?_ | refine ZL tm no_specs rfl (by conv => lhs; simp [q1, q2, hm, h64, h80, h96, hw, y1, y2, y3, y4, y5, m1, m2, hb1]) fun _ => ?_)
            exact ⟨⟨(k + 1, _, .sl 832 (((lk h 832).getD {}).gen + 1) 0 (1), [⟨a1, a2, p, a3, a4, a5⟩], true), ⟨hlt, by simp only [List.length_append, List.length_cons, List.length_nil]; first | omega | (simp only [List.length_nil] at hl2; omega), by rw [he]; simp [hi], by simp [lk_st, h64], by simp [lk_st, h80], by simp [lk_st, h96], .inr ⟨((lk h 832).getD {}).gen + 1, .inr ⟨by simp, by simp [lk_st, tkB, first_all]⟩⟩⟩⟩, by dsimp only; omega, AS.le_of rfl ⟨rfl, rfl, rfl, rfl, rfl, rfl, rfl, trivial⟩ (fun _ => rfl)⟩
          · repeat (first | refine ZS ?_ | refine ZK tm no_specs rfl (by conv => lhs; simp [q1, q2, hm, h64, h80, h96, hw, y1, y2, y3, y4, y5, m1, m2, hb, tkB, hb1]) fun _ => ?_ | refine ZL tm no_specs rfl (by conv => lhs; simp [q1, q2, hm, h64, h80, h96, hw, y1, y2, y3, y4, y5, m1, m2, hb, tkB, hb1]) fun _ => ?_)
            exact ⟨⟨(k + 1, _, .sl 656 (g + 1) 0 (acc.length + 1), acc ++ [⟨a1, a2, p, a3, a4, a5⟩], true), ⟨hlt, by simp only [List.length_append, List.length_cons, List.length_nil]; first | omega | (simp only [List.length_nil] at hl2; omega), by rw [he]; simp [hi], by simp [lk_st, h64], by simp [lk_st, h80], by simp [lk_st, h96], .inr ⟨g + 1, .inl ⟨by simp, by simp [lk_st, tkB, first_all, hb]⟩⟩⟩⟩, by dsimp only; omega, AS.le_of rfl ⟨rfl, rfl, rfl, rfl, rfl, rfl, rfl, trivial⟩ (fun _ => rfl)⟩
          · repeat (first | refine ZS ?_ | refine ZK tm no_specs rfl (by conv => lhs; simp [q1, q2, hm, h64, h80, h96, hw, y1, y2, y3, y4, y5, m1, m2, hb, tkB, hb1]) fun _ => ?_ | refine ZL tm no_specs rfl (by conv => lhs; simp [q1, q2, hm, h64, h80, h96, hw, y1, y2, y3, y4, y5, m1, m2, hb, tkB, hb1]) fun _ => ?_)
            exact ⟨⟨(k + 1, _, .sl 832 (g + 1) 0 (acc.length + 1), acc ++ [⟨a1, a2, p, a3, a4, a5⟩], true), ⟨hlt, by simp only [List.length_append, List.length_cons, List.length_nil]; first | omega | (simp only [List.length_nil] at hl2; omega), by rw [he]; simp [hi], by simp [lk_st, h64], by simp [lk_st, h80], by simp [lk_st, h96], .inr ⟨g + 1, .inr ⟨by simp, by simp [lk_st, tkB, first_all, hb]⟩⟩⟩⟩, by dsimp only; omega, AS.le_of rfl ⟨rfl, rfl, rfl, rfl, rfl, rfl, rfl, trivial⟩ (fun _ => rfl)⟩
      | false =>
        by_cases hj : b1 ≤ a1
        · by_cases hi : a1 = b1
          · have hb1 : (a1 != b1) = false := by simp [hi]
            rcases hP with ⟨rfl, rfl⟩ | ⟨g, ⟨rfl, hb⟩ | ⟨rfl, hb⟩⟩
            · repeat (first | refine ZS ?_ | refine ZK tm no_specs rfl (by conv => lhs; simp [q1, q2, hm, h64, h80, h96, hw, y1, y2, y3, y4, y5, m1, m2, hb1, hj]) fun _ => ?_ | refine ZL tm no_specs rfl (by conv => lhs; simp [q1, q2, hm, h64, h80, h96, hw, y1, y2, y3, y4, y5, m1, m2, hb1, hj]) fun _ => ?_)
              exact ⟨⟨(k + 1, _, .sl 656 (((lk h 656).getD {}).gen + 1) 0 (1), [⟨b1, b2, o, b3, b4, b5⟩], true), ⟨hlt, by simp only [List.length_append, List.length_cons, List.length_nil]; first | omega | (simp only [List.length_nil] at hl2; omega), by rw [he]; simp [hi, hj], by simp [lk_st, h64], by simp [lk_st, h80], by simp [lk_st, h96], .inr ⟨((lk h 656).getD {}).gen + 1, .inl ⟨by simp, by simp [lk_st, tkB, first_all]⟩⟩⟩⟩, by dsimp only; omega, AS.le_of rfl ⟨rfl, rfl, rfl, rfl, rfl, rfl, rfl, trivial⟩ (fun _ => rfl)⟩
            · repeat (first | refine ZS ?_ | refine ZK tm no_specs rfl (by conv => lhs; simp [q1, q2, hm, h64, h80, h96, hw, y1, y2, y3, y4, y5, m1, m2, hb, tkB, hb1, hj]) fun _ => ?_ | refine ZL tm no_specs rfl (by conv => lhs; simp [q1, q2, hm, h64, h80, h96, hw, y1, y2, y3, y4, y5, m1, m2, hb, tkB, hb1, hj]) fun _ => ?_)
              exact ⟨⟨(k + 1, _, .sl 656 (g + 1) 0 (acc.length + 1), acc ++ [⟨b1, b2, o, b3, b4, b5⟩], true), ⟨hlt, by simp only [List.length_append, List.length_cons, List.length_nil]; first | omega | (simp only [List.length_nil] at hl2; omega), by rw [he]; simp [hi, hj], by simp [lk_st, h64], by simp [lk_st, h80], by simp [lk_st, h96], .inr ⟨g + 1, .inl ⟨by simp, by simp [lk_st, tkB, first_all, hb]⟩⟩⟩⟩, by dsimp only; omega, AS.le_of rfl ⟨rfl, rfl, rfl, rfl, rfl, rfl, rfl, trivial⟩ (fun _ => rfl)⟩
            · repeat (first | refine ZS ?_ | refine ZK tm no_specs rfl (by conv => lhs; simp [q1, q2, hm, h64, h80, h96, hw, y1, y2, y3, y4, y5, m1, m2, hb, tkB, hb1, hj]) fun _ => ?_ | refine ZL tm no_specs rfl (by conv => lhs; simp [q1, q2, hm, h64, h80, h96, hw, y1, y2, y3, y4, y5, m1, m2, hb, tkB, hb1, hj]) fun _ => ?_)
              exact ⟨⟨(k + 1, _, .sl 832 (g + 1) 0 (acc.length + 1), acc ++ [⟨b1, b2, o, b3, b4, b5⟩], true), ⟨hlt, by simp only [List.length_append, List.length_cons, List.length_nil]; first | omega | (simp only [List.length_nil] at hl2; omega), by rw [he]; simp [hi, hj], by simp [lk_st, h64], by simp [lk_st, h80], by simp [lk_st, h96], .inr ⟨g + 1, .inr ⟨by simp, by simp [lk_st, tkB, first_all, hb]⟩⟩⟩⟩, by dsimp only; omega, AS.le_of rfl ⟨rfl, rfl, rfl, rfl, rfl, rfl, rfl, trivial⟩ (fun _ => rfl)⟩
          · have hb1 : (a1 != b1) = true := by simp [hi]
            rcases hP with ⟨rfl, rfl⟩ | ⟨g, ⟨rfl, hb⟩ | ⟨rfl, hb⟩⟩
            · repeat (first | refine ZS ?_ | refine ZK tm no_specs rfl (by conv => lhs; simp [q1, q2, hm, h64, h80, h96, hw, y1, y2, y3, y4, y5, m1, m2, hb1, hj]) fun _ => ?_ | refine ZL tm no_specs rfl (by conv => lhs; simp [q1, q2, hm, h64, h80, h96, hw, y1, y2, y3, y4, y5, m1, m2, hb1, hj]) fun _ => ?_)
              exact ⟨⟨(k + 1, _, .sl 656 (((lk h 656).getD {}).gen + 1 + 1) 0 (2), [⟨b1, b2, o, b3, b4, b5⟩, ⟨a1, a2, p, a3, a4, a5⟩], true), ⟨hlt, by simp only [List.length_append, List.length_cons, List.length_nil]; first | omega | (simp only [List.length_nil] at hl2; omega), by rw [he]; simp [hi, hj], by simp [lk_st, h64], by simp [lk_st, h80], by simp [lk_st, h96], .inr ⟨((lk h 656).getD {}).gen + 1 + 1, .inl ⟨by simp, by simp [lk_st, tkB, first_all]⟩⟩⟩⟩, by dsimp only; omega, AS.le_of rfl ⟨rfl, rfl, rfl, rfl, rfl, rfl, rfl, trivial⟩ (fun _ => rfl)⟩
            · repeat (first | refine ZS ?_ | refine ZK tm no_specs rfl (by conv => lhs; simp [q1, q2, hm, h64, h80, h96, hw, y1, y2, y3, y4, y5, m1, m2, hb, tkB, hb1, hj]) fun _ => ?_ | refine ZL tm no_specs rfl (by conv => lhs; simp [q1, q2, hm, h64, h80, h96, hw, y1, y2, y3, y4, y5, m1, m2, hb, tkB, hb1, hj]) fun _ => ?_)
              exact ⟨⟨(k + 1, _, .sl 656 (g + 1 + 1) 0 (acc.length + 1 + 1), acc ++ [⟨b1, b2, o, b3, b4, b5⟩, ⟨a1, a2, p, a3, a4, a5⟩], true), ⟨hlt, by simp only [List.length_append, List.length_cons, List.length_nil]; first | omega | (simp only [List.length_nil] at hl2; omega), by rw [he]; simp [hi, hj], by simp [lk_st, h64], by simp [lk_st, h80], by simp [lk_st, h96], .inr ⟨g + 1 + 1, .inl ⟨by simp, by simp [lk_st, tkB, first_all, hb]⟩⟩⟩⟩, by dsimp only; omega, AS.le_of rfl ⟨rfl, rfl, rfl, rfl, rfl, rfl, rfl, trivial⟩ (fun _ => rfl)⟩
            · repeat (first | refine ZS ?_ | refine ZK tm no_specs rfl (by conv => lhs; simp [q1, q2, hm, h64, h80, h96, hw, y1, y2, y3, y4, y5, m1, m2, hb, tkB, hb1, hj]) fun _ => ?_ | refine ZL tm no_specs rfl (by conv => lhs; simp [q1, q2, hm, h64, h80, h96, hw, y1, y2, y3, y4, y5, m1, m2, hb, tkB, hb1, hj]) fun _ => ?_)
              exact ⟨⟨(k + 1, _, .sl 832 (g + 1 + 1) 0 (acc.length + 1 + 1), acc ++ [⟨b1, b2, o, b3, b4, b5⟩, ⟨a1, a2, p, a3, a4, a5⟩], true), ⟨hlt, by simp only [List.length_append, List.length_cons, List.length_nil]; first | omega | (simp only [List.length_nil] at hl2; omega), by rw [he]; simp [hi, hj], by simp [lk_st, h64], by simp [lk_st, h80], by simp [lk_st, h96], .inr ⟨g + 1 + 1, .inr ⟨by simp, by simp [lk_st, tkB, first_all, hb]⟩⟩⟩⟩, by dsimp only; omega, AS.le_of rfl ⟨rfl, rfl, rfl, rfl, rfl, rfl, rfl, trivial⟩ (fun _ => rfl)⟩
        · have hi : a1 ≠ b1 := by omega
          have hb1 : (a1 != b1) = true := by simp [hi]
          rcases hP with ⟨rfl, rfl⟩ | ⟨g, ⟨rfl, hb⟩ | ⟨rfl, hb⟩⟩
          · repeat (first | refine ZS ?_ | refine ZK tm no_specs rfl (by conv => lhs; simp [q1, q2, hm, h64, h80, h96, hw, y1, y2, y3, y4, y5, m1, m2, hb1, hj]) fun _ => ?_ | refine ZL tm no_specs rfl (by conv => lhs; simp [q1, q2, hm, h64, h80, h96, hw, y1, y2, y3, y4, y5, m1, m2, hb1, hj]) fun _ => ?_)
            exact ⟨⟨(k + 1, _, .sl 832 (((lk h 832).getD {}).gen + 1) 0 (1), [⟨a1, a2, p, a3, a4, a5⟩], false), ⟨hlt, by simp only [List.length_append, List.length_cons, List.length_nil]; first | omega | (simp only [List.length_nil] at hl2; omega), by rw [he]; simp [hi, hj], by simp [lk_st, h64], by simp [lk_st, h80], by simp [lk_st, h96], .inr ⟨((lk h 832).getD {}).gen + 1, .inr ⟨by simp, by simp [lk_st, tkB, first_all]⟩⟩⟩⟩, by dsimp only; omega, AS.le_of rfl ⟨rfl, rfl, rfl, rfl, rfl, rfl, rfl, trivial⟩ (fun _ => rfl)⟩
          · repeat (first | refine ZS ?_ | refine ZK tm no_specs rfl (by conv => lhs; simp [q1, q2, hm, h64, h80, h96, hw, y1, y2, y3, y4, y5, m1, m2, hb, tkB, hb1, hj]) fun _ => ?_ | refine ZL tm no_specs rfl (by conv => lhs; simp [q1, q2, hm, h64, h80, h96, hw, y1, y2, y3, y4, y5, m1, m2, hb, tkB, hb1, hj]) fun _ => ?_)
            exact ⟨⟨(k + 1, _, .sl 656 (g + 1) 0 (acc.length + 1), acc ++ [⟨a1, a2, p, a3, a4, a5⟩], false), ⟨hlt, by simp only [List.length_append, List.length_cons, List.length_nil]; first | omega | (simp only [List.length_nil] at hl2; omega), by rw [he]; simp [hi, hj], by simp [lk_st, h64], by simp [lk_st, h80], by simp [lk_st, h96], .inr ⟨g + 1, .inl ⟨by simp, by simp [lk_st, tkB, first_all, hb]⟩⟩⟩⟩, by dsimp only; omega, AS.le_of rfl ⟨rfl, rfl, rfl, rfl, rfl, rfl, rfl, trivial⟩ (fun _ => rfl)⟩
          · repeat (first | refine ZS ?_ | refine ZK tm no_specs rfl (by conv => lhs; simp [q1, q2, hm, h64, h80, h96, hw, y1, y2, y3, y4, y5, m1, m2, hb, tkB, hb1, hj]) fun _ => ?_ | refine ZL tm no_specs rfl (by conv => lhs; simp [q1, q2, hm, h64, h80, h96, hw, y1, y2, y3, y4, y5, m1, m2, hb, tkB, hb1, hj]) fun _ => ?_)
            exact ⟨⟨(k + 1, _, .sl 832 (g + 1) 0 (acc.length + 1), acc ++ [⟨a1, a2, p, a3, a4, a5⟩], false), ⟨hlt, by simp only [List.length_append, List.length_cons, List.length_nil]; first | omega | (simp only [List.length_nil] at hl2; omega), by rw [he]; simp [hi, hj], by simp [lk_st, h64], by simp [lk_st, h80], by simp [lk_st, h96], .inr ⟨g + 1, .inr ⟨by simp, by simp [lk_st, tkB, first_all, hb]⟩⟩⟩⟩, by dsimp only; omega, AS.le_of rfl ⟨rfl, rfl, rfl, rfl, rfl, rfl, rfl, trivial⟩ (fun _ => rfl)⟩
  | true =>
    rw [Bool.true_and]
    repeat (first | refine ZS ?_ | refine ZK tm no_specs rfl (by conv => lhs; simp [cap, h1]) fun _ => ?_ | refine ZL tm no_specs rfl (by conv => lhs; simp [cap, h1]) fun _ => ?_)
    refine W.loop rfl (ι := { q : Nat × NL ABlk × AV × List Tok × Bool // PI nd l ⟨b1, b2, o, b3, b4, b5⟩ ((b3 == 0)) q.1 q.2.1 q.2.2.1 q.2.2.2.1 q.2.2.2.2 })
      (fun q => ⟨63, [(3, .ptr 64 1 0 0), (4, .ptr 80 1 0 0), (5, .ptr 96 1 0 0), (6, .bool q.1.2.2.2.2), (21, .list 41 (l.map Tok.c)), (22, .int .i64 l.length), (23, .int .i64 (q.1.1 : Nat))], q.1.2.1⟩) (fun q => l.length - q.1.1)
      ⟨(0, _, .nils, [], (b3 == 0)), by simp, by simp, by rfl, rfl, rfl, rfl, .inl ⟨rfl, rfl⟩⟩ (AS.le_of rfl ⟨rfl, rfl, rfl, rfl, rfl, rfl, rfl, trivial⟩ (fun _ => rfl)) ?_
    rintro ⟨⟨k, h, P, acc, dn⟩, ⟨hk, hl2, he, h64, h80, h96, hP⟩⟩
    dsimp only at hk hl2 he h64 h80 h96 hP ⊢
    by_cases hk2 : k = l.length
    · subst hk2
      rw [List.drop_length] at he
      have y1 : acc.length ≤ maxLen := by simp only [maxLen]; omega
      have y2 : (acc.length + 1) * 496 ≤ 140737488355328 := bytesT1 (by omega)
      have y4 : acc.length + 1 ≤ maxLen := by simp only [maxLen]; omega
      cases dn with
      | true =>
        simp only [putL, if_true, if_false, Bool.false_eq_true, List.append_nil] at he
        rw [he]
        rcases hP with ⟨rfl, rfl⟩ | ⟨g, ⟨rfl, hb⟩ | ⟨rfl, hb⟩⟩
        · repeat (first | refine ZS ?_ | refine ZK tm no_specs rfl (by conv => lhs; simp [cap, h64, h80, h96, y1, y2, y4, m1, m2]) fun _ => ?_ | refine ZL tm no_specs rfl (by conv => lhs; simp [cap, h64, h80, h96, y1, y2, y4, m1, m2]) fun _ => ?_)
          refine ⟨_, ?_, tks_nrm0 nd⟩
          first | exact Ret.dataR rfl (by conv => lhs; simp [h96]) (by conv => lhs; simp [h96]) (by first | rfl | simp [inlT, inlV]) | fail "no return here"
        · repeat (first | refine ZS ?_ | refine ZK tm no_specs rfl (by conv => lhs; simp [cap, h64, h80, h96, y1, y2, y4, m1, m2, hb, tkB]) fun _ => ?_ | refine ZL tm no_specs rfl (by conv => lhs; simp [cap, h64, h80, h96, y1, y2, y4, m1, m2, hb, tkB]) fun _ => ?_)
          refine ⟨_, ?_, tks_nrmR nd _⟩
          try simp only [List.map_append, List.map_cons, List.map_nil, Tok.c, List.nil_append]
          first | exact Ret.dataR rfl (by conv => lhs; simp [h96, y1, y4, m1, hb, tkB, first_all, take_snoc, take_acc]) (by conv => lhs; simp [h96, y1, y4, m1, hb, tkB, first_all, take_snoc, take_acc]) (by first | rfl | simp [inlT, inlV]) | fail "no return here"
        · repeat (first | refine ZS ?_ | refine ZK tm no_specs rfl (by conv => lhs; simp [cap, h64, h80, h96, y1, y2, y4, m1, m2, hb, tkB]) fun _ => ?_ | refine ZL tm no_specs rfl (by conv => lhs; simp [cap, h64, h80, h96, y1, y2, y4, m1, m2, hb, tkB]) fun _ => ?_)
          refine ⟨_, ?_, tks_nrmR nd _⟩
          try simp only [List.map_append, List.map_cons, List.map_nil, Tok.c, List.nil_append]
          first | exact Ret.dataR rfl (by conv => lhs; simp [h96, y1, y4, m1, hb, tkB, first_all, take_snoc, take_acc]) (by conv => lhs; simp [h96, y1, y4, m1, hb, tkB, first_all, take_snoc, take_acc]) (by first | rfl | simp [inlT, inlV]) | fail "no return here"
      | false =>
        simp only [putL, if_true, if_false, Bool.false_eq_true, List.append_nil] at he
        rw [he]
        rcases hP with ⟨rfl, rfl⟩ | ⟨g, ⟨rfl, hb⟩ | ⟨rfl, hb⟩⟩
        · repeat (first | refine ZS ?_ | refine ZK tm no_specs rfl (by conv => lhs; simp [cap, h64, h80, h96, y1, y2, y4, m1, m2]) fun _ => ?_ | refine ZL tm no_specs rfl (by conv => lhs; simp [cap, h64, h80, h96, y1, y2, y4, m1, m2]) fun _ => ?_)
          refine ⟨_, ?_, tks_nrmR nd _⟩
          try simp only [List.map_append, List.map_cons, List.map_nil, Tok.c, List.nil_append]
          first | exact Ret.dataR rfl (by conv => lhs; simp [h96, y1, y4, m1, first_all, take_snoc, take_acc]) (by conv => lhs; simp [h96, y1, y4, m1, first_all, take_snoc, take_acc]) (by first | rfl | simp [inlT, inlV]) | fail "no return here"
        · repeat (first | refine ZS ?_ | refine ZK tm no_specs rfl (by conv => lhs; simp [cap, h64, h80, h96, y1, y2, y4, m1, m2, hb, tkB]) fun _ => ?_ | refine ZL tm no_specs rfl (by conv => lhs; simp [cap, h64, h80, h96, y1, y2, y4, m1, m2, hb, tkB]) fun _ => ?_)
          refine ⟨_, ?_, tks_nrmR nd _⟩
          try simp only [List.map_append, List.map_cons, List.map_nil, Tok.c, List.nil_append]
          first | exact Ret.dataR rfl (by conv => lhs; simp [h96, y1, y4, m1, hb, tkB, first_all, take_snoc, take_acc]) (by conv => lhs; simp [h96, y1, y4, m1, hb, tkB, first_all, take_snoc, take_acc]) (by first | rfl | simp [inlT, inlV]) | fail "no return here"
        · repeat (first | refine ZS ?_ | refine ZK tm no_specs rfl (by conv => lhs; simp [cap, h64, h80, h96, y1, y2, y4, m1, m2, hb, tkB]) fun _ => ?_ | refine ZL tm no_specs rfl (by conv => lhs; simp [cap, h64, h80, h96, y1, y2, y4, m1, m2, hb, tkB]) fun _ => ?_)
          refine ⟨_, ?_, tks_nrmR nd _⟩
          try simp only [List.map_append, List.map_cons, List.map_nil, Tok.c, List.nil_append]
          first | exact Ret.dataR rfl (by conv => lhs; simp [h96, y1, y4, m1, hb, tkB, first_all, take_snoc, take_acc]) (by conv => lhs; simp [h96, y1, y4, m1, hb, tkB, first_all, take_snoc, take_acc]) (by first | rfl | simp [inlT, inlV]) | fail "no return here"
    · have hlt : k < l.length := by omega
      obtain ⟨r, hr⟩ := get_lt hlt
      have hm : (l.map Tok.c)[k]? = some r.c := by rw [List.getElem?_map, hr]; rfl
      have q1 : (k : Int) < l.length := by omega
      have q2 : ¬ l.length ≤ k := by omega
      have hw : IntKind.i64.wrap ((k : Int) + 1) = ((k + 1 : Nat) : Int) := w64 (by omega) (by omega)
      rw [putL_drop hr] at he
      obtain ⟨a1, a2, p, a3, a4, a5⟩ := r
      dsimp only at he
      have y1 : acc.length ≤ maxLen := by simp only [maxLen]; omega
      have y2 : (acc.length + 1) * 496 ≤ 140737488355328 := bytesT1 (by omega)
      have y4 : acc.length + 1 ≤ maxLen := by simp only [maxLen]; omega
      have y5 : acc.length + 1 + 1 ≤ maxLen := by simp only [maxLen]; omega
      have y3 : (acc.length + 1 + 1) * 496 ≤ 140737488355328 := bytesT1 (by omega)
      cases dn with
      | true =>
        by_cases hi : a1 = b1
        · have hb1 : (a1 != b1) = false := by simp [hi]
          rcases hP with ⟨rfl, rfl⟩ | ⟨g, ⟨rfl, hb⟩ | ⟨rfl, hb⟩⟩
          · repeat (first | refine ZS ?_ | refine ZK tm no_specs rfl (by conv => lhs; simp [q1, q2, hm, h64, h80, h96, hw, y1, y2, y3, y4, y5, m1, m2, hb1]) fun _ => ?_ | refine ZL tm no_specs rfl (by conv => lhs; simp [q1, q2, hm, h64, h80, h96, hw, y1, y2, y3, y4, y5, m1, m2, hb1]) fun _ => ?_)
            exact ⟨⟨(k + 1, _, .nils, [], true), ⟨hlt, by simp only [List.length_append, List.length_cons, List.length_nil]; first | omega | (simp only [List.length_nil] at hl2; omega), by rw [he]; simp [hi], by simp [lk_st, h64], by simp [lk_st, h80], by simp [lk_st, h96], .inl ⟨rfl, rfl⟩⟩⟩, by dsimp only; omega, AS.le_of rfl ⟨rfl, rfl, rfl, rfl, rfl, rfl, rfl, trivial⟩ (fun _ => rfl)⟩
          · repeat (first | refine ZS ?_ | refine ZK tm no_specs rfl (by conv => lhs; simp [q1, q2, hm, h64, h80, h96, hw, y1, y2, y3, y4, y5, m1, m2, hb, tkB, hb1]) fun _ => ?_ | refine ZL tm no_specs rfl (by conv => lhs; simp [q1, q2, hm, h64, h80, h96, hw, y1, y2, y3, y4, y5, m1, m2, hb, tkB, hb1]) fun _ => ?_)
            exact ⟨⟨(k + 1, _, .sl 656 (g) 0 (acc.length), acc, true), ⟨hlt, by simp only [List.length_append, List.length_cons, List.length_nil]; first | omega | (simp only [List.length_nil] at hl2; omega), by rw [he]; simp [hi], by simp [lk_st, h64], by simp [lk_st, h80], by simp [lk_st, h96], .inr ⟨g, .inl ⟨by simp, by simp [lk_st, tkB, first_all, hb]⟩⟩⟩⟩, by dsimp only; omega, AS.le_of rfl ⟨rfl, rfl, rfl, rfl, rfl, rfl, rfl, trivial⟩ (fun _ => rfl)⟩
          · repeat (first | refine ZS ?_ | refine ZK tm no_specs rfl (by conv => lhs; simp [q1, q2, hm, h64, h80, h96, hw, y1, y2, y3, y4, y5, m1, m2, hb, tkB, hb1]) fun _ => ?_ | refine ZL tm no_specs rfl (by conv => lhs; simp [q1, q2, hm, h64, h80, h96, hw, y1, y2, y3, y4, y5, m1, m2, hb, tkB, hb1]) fun _ => ?_)
            exact ⟨⟨(k + 1, _, .sl 832 (g) 0 (acc.length), acc, true), ⟨hlt, by simp only [List.length_append, List.length_cons, List.length_nil]; first | omega | (simp only [List.length_nil] at hl2; omega), by rw [he]; simp [hi], by simp [lk_st, h64], by simp [lk_st, h80], by simp [lk_st, h96], .inr ⟨g, .inr ⟨by simp, by simp [lk_st, tkB, first_all, hb]⟩⟩⟩⟩, by dsimp only; omega, AS.le_of rfl ⟨rfl, rfl, rfl, rfl, rfl, rfl, rfl, trivial⟩ (fun _ => rfl)⟩
        · have hb1 : (a1 != b1) = true := by simp [hi]
          rcases hP with ⟨rfl, rfl⟩ | ⟨g, ⟨rfl, hb⟩ | ⟨rfl, hb⟩⟩
          · repeat (first | refine ZS ?_ | refine ZK tm no_specs rfl (by conv => lhs; simp [q1, q2, hm, h64, h80, h96, hw, y1, y2, y3, y4, y5, m1, m2, hb1]) fun _ => ?_ | refine ZL tm no_specs rfl (by conv => lhs; simp [q1, q2, hm, h64, h80, h96, hw, y1, y2, y3, y4, y5, m1, m2, hb1]) fun _ => ?_)
            exact ⟨⟨(k + 1, _, .sl 832 (((lk h 832).getD {}).gen + 1) 0 (1), [⟨a1, a2, p, a3, a4, a5⟩], true), ⟨hlt, by simp only [List.length_append, List.length_cons, List.length_nil]; first | omega | (simp only [List.length_nil] at hl2; omega), by rw [he]; simp [hi], by simp [lk_st, h64], by simp [lk_st, h80], by simp [lk_st, h96], .inr ⟨((lk h 832).getD {}).gen + 1, .inr ⟨by simp, by simp [lk_st, tkB, first_all]⟩⟩⟩⟩, by dsimp only; omega, AS.le_of rfl ⟨rfl, rfl, rfl, rfl, rfl, rfl, rfl, trivial⟩ (fun _ => rfl)⟩
          · repeat (first | refine ZS ?_ | refine ZK tm no_specs rfl (by conv => lhs; simp [q1, q2, hm, h64, h80, h96, hw, y1, y2, y3, y4, y5, m1, m2, hb, tkB, hb1]) fun _ => ?_ | refine ZL tm no_specs rfl (by conv => lhs; simp [q1, q2, hm, h64, h80, h96, hw, y1, y2, y3, y4, y5, m1, m2, hb, tkB, hb1]) fun _ => ?_)
            exact ⟨⟨(k + 1, _, .sl 656 (g + 1) 0 (acc.length + 1), acc ++ [⟨a1, a2, p, a3, a4, a5⟩], true), ⟨hlt, by simp only [List.length_append, List.length_cons, List.length_nil]; first | omega | (simp only [List.length_nil] at hl2; omega), by rw [he]; simp [hi], by simp [lk_st, h64], by simp [lk_st, h80], by simp [lk_st, h96], .inr ⟨g + 1, .inl ⟨by simp, by simp [lk_st, tkB, first_all, hb]⟩⟩⟩⟩, by dsimp only; omega, AS.le_of rfl ⟨rfl, rfl, rfl, rfl, rfl, rfl, rfl, trivial⟩ (fun _ => rfl)⟩
          · repeat (first | refine ZS ?_ | refine ZK tm no_specs rfl (by conv => lhs; simp [q1, q2, hm, h64, h80, h96, hw, y1, y2, y3, y4, y5, m1, m2, hb, tkB, hb1]) fun _ => ?_ | refine ZL tm no_specs rfl (by conv => lhs; simp [q1, q2, hm, h64, h80, h96, hw, y1, y2, y3, y4, y5, m1, m2, hb, tkB, hb1]) fun _ => ?_)
            exact ⟨⟨(k + 1, _, .sl 832 (g + 1) 0 (acc.length + 1), acc ++ [⟨a1, a2, p, a3, a4, a5⟩], true), ⟨hlt, by simp only [List.length_append, List.length_cons, List.length_nil]; first | omega | (simp only [List.length_nil] at hl2; omega), by rw [he]; simp [hi], by simp [lk_st, h64], by simp [lk_st, h80], by simp [lk_st, h96], .inr ⟨g + 1, .inr ⟨by simp, by simp [lk_st, tkB, first_all, hb]⟩⟩⟩⟩, by dsimp only; omega, AS.le_of rfl ⟨rfl, rfl, rfl, rfl, rfl, rfl, rfl, trivial⟩ (fun _ => rfl)⟩
      | false =>
        by_cases hj : b1 ≤ a1
        · by_cases hi : a1 = b1
          · have hb1 : (a1 != b1) = false := by simp [hi]
            rcases hP with ⟨rfl, rfl⟩ | ⟨g, ⟨rfl, hb⟩ | ⟨rfl, hb⟩⟩
            · repeat (first | refine ZS ?_ | refine ZK tm no_specs rfl (by conv => lhs; simp [q1, q2, hm, h64, h80, h96, hw, y1, y2, y3, y4, y5, m1, m2, hb1, hj]) fun _ => ?_ | refine ZL tm no_specs rfl (by conv => lhs; simp [q1, q2, hm, h64, h80, h96, hw, y1, y2, y3, y4, y5, m1, m2, hb1, hj]) fun _ => ?_)
              exact ⟨⟨(k + 1, _, .sl 656 (((lk h 656).getD {}).gen + 1) 0 (1), [⟨b1, b2, o, b3, b4, b5⟩], true), ⟨hlt, by simp only [List.length_append, List.length_cons, List.length_nil]; first | omega | (simp only [List.length_nil] at hl2; omega), by rw [he]; simp [hi, hj], by simp [lk_st, h64], by simp [lk_st, h80], by simp [lk_st, h96], .inr ⟨((lk h 656).getD {}).gen + 1, .inl ⟨by simp, by simp [lk_st, tkB, first_all]⟩⟩⟩⟩, by dsimp only; omega, AS.le_of rfl ⟨rfl, rfl, rfl, rfl, rfl, rfl, rfl, trivial⟩ (fun _ => rfl)⟩
            · repeat (first | refine ZS ?_ | refine ZK tm no_specs rfl (by conv => lhs; simp [q1, q2, hm, h64, h80, h96, hw, y1, y2, y3, y4, y5, m1, m2, hb, tkB, hb1, hj]) fun _ => ?_ | refine ZL tm no_specs rfl (by conv => lhs; simp [q1, q2, hm, h64, h80, h96, hw, y1, y2, y3, y4, y5, m1, m2, hb, tkB, hb1, hj]) fun _ => ?_)
              exact ⟨⟨(k + 1, _, .sl 656 (g + 1) 0 (acc.length + 1), acc ++ [⟨b1, b2, o, b3, b4, b5⟩], true), ⟨hlt, by simp only [List.length_append, List.length_cons, List.length_nil]; first | omega | (simp only [List.length_nil] at hl2; omega), by rw [he]; simp [hi, hj], by simp [lk_st, h64], by simp [lk_st, h80], by simp [lk_st, h96], .inr ⟨g + 1, .inl ⟨by simp, by simp [lk_st, tkB, first_all, hb]⟩⟩⟩⟩, by dsimp only; omega, AS.le_of rfl ⟨rfl, rfl, rfl, rfl, rfl, rfl, rfl, trivial⟩ (fun _ => rfl)⟩
            · repeat (first | refine ZS ?_ | refine ZK tm no_specs rfl (by conv => lhs; simp [q1, q2, hm, h64, h80, h96, hw, y1, y2, y3, y4, y5, m1, m2, hb, tkB, hb1, hj]) fun _ => ?_ | refine ZL tm no_specs rfl (by conv => lhs; simp [q1, q2, hm, h64, h80, h96, hw, y1, y2, y3, y4, y5, m1, m2, hb, tkB, hb1, hj]) fun _ => ?_)
              exact ⟨⟨(k + 1, _, .sl 832 (g + 1) 0 (acc.length + 1), acc ++ [⟨b1, b2, o, b3, b4, b5⟩], true), ⟨hlt, by simp only [List.length_append, List.length_cons, List.length_nil]; first | omega | (simp only [List.length_nil] at hl2; omega), by rw [he]; simp [hi, hj], by simp [lk_st, h64], by simp [lk_st, h80], by simp [lk_st, h96], .inr ⟨g + 1, .inr ⟨by simp, by simp [lk_st, tkB, first_all, hb]⟩⟩⟩⟩, by dsimp only; omega, AS.le_of rfl ⟨rfl, rfl, rfl, rfl, rfl, rfl, rfl, trivial⟩ (fun _ => rfl)⟩
          · have hb1 : (a1 != b1) = true := by simp [hi]
            rcases hP with ⟨rfl, rfl⟩ | ⟨g, ⟨rfl, hb⟩ | ⟨rfl, hb⟩⟩
            · repeat (first | refine ZS ?_ | refine ZK tm no_specs rfl (by conv => lhs; simp [q1, q2, hm, h64, h80, h96, hw, y1, y2, y3, y4, y5, m1, m2, hb1, hj]) fun _ => ?_ | refine ZL tm no_specs rfl (by conv => lhs; simp [q1, q2, hm, h64, h80, h96, hw, y1, y2, y3, y4, y5, m1, m2, hb1, hj]) fun _ => ?_)
              exact ⟨⟨(k + 1, _, .sl 656 (((lk h 656).getD {}).gen + 1 + 1) 0 (2), [⟨b1, b2, o, b3, b4, b5⟩, ⟨a1, a2, p, a3, a4, a5⟩], true), ⟨hlt, by simp only [List.length_append, List.length_cons, List.length_nil]; first | omega | (simp only [List.length_nil] at hl2; omega), by rw [he]; simp [hi, hj], by simp [lk_st, h64], by simp [lk_st, h80], by simp [lk_st, h96], .inr ⟨((lk h 656).getD {}).gen + 1 + 1, .inl ⟨by simp, by simp [lk_st, tkB, first_all]⟩⟩⟩⟩, by dsimp only; omega, AS.le_of rfl ⟨rfl, rfl, rfl, rfl, rfl, rfl, rfl, trivial⟩ (fun _ => rfl)⟩
            · repeat (first | refine ZS ?_ | refine ZK tm no_specs rfl (by conv => lhs; simp [q1, q2, hm, h64, h80, h96, hw, y1, y2, y3, y4, y5, m1, m2, hb, tkB, hb1, hj]) fun _ => ?_ | refine ZL tm no_specs rfl (by conv => lhs; simp [q1, q2, hm, h64, h80, h96, hw, y1, y2, y3, y4, y5, m1, m2, hb, tkB, hb1, hj]) fun _ => ?_)
              exact ⟨⟨(k + 1, _, .sl 656 (g + 1 + 1) 0 (acc.length + 1 + 1), acc ++ [⟨b1, b2, o, b3, b4, b5⟩, ⟨a1, a2, p, a3, a4, a5⟩], true), ⟨hlt, by simp only [List.length_append, List.length_cons, List.length_nil]; first | omega | (simp only [List.length_nil] at hl2; omega), by rw [he]; simp [hi, hj], by simp [lk_st, h64], by simp [lk_st, h80], by simp [lk_st, h96], .inr ⟨g + 1 + 1, .inl ⟨by simp, by simp [lk_st, tkB, first_all, hb]⟩⟩⟩⟩, by dsimp only; omega, AS.le_of rfl ⟨rfl, rfl, rfl, rfl, rfl, rfl, rfl, trivial⟩ (fun _ => rfl)⟩
            · repeat (first | refine ZS ?_ | refine ZK tm no_specs rfl (by conv => lhs; simp [q1, q2, hm, h64, h80, h96, hw, y1, y2, y3, y4, y5, m1, m2, hb, tkB, hb1, hj]) fun _ => ?_ | refine ZL tm no_specs rfl (by conv => lhs; simp [q1, q2, hm, h64, h80, h96, hw, y1, y2, y3, y4, y5, m1, m2, hb, tkB, hb1, hj]) fun _ => ?_)
              exact ⟨⟨(k + 1, _, .sl 832 (g + 1 + 1) 0 (acc.length + 1 + 1), acc ++ [⟨b1, b2, o, b3, b4, b5⟩, ⟨a1, a2, p, a3, a4, a5⟩], true), ⟨hlt, by simp only [List.length_append, List.length_cons, List.length_nil]; first | omega | (simp only [List.length_nil] at hl2; omega), by rw [he]; simp [hi, hj], by simp [lk_st, h64], by simp [lk_st, h80], by simp [lk_st, h96], .inr ⟨g + 1 + 1, .inr ⟨by simp, by simp [lk_st, tkB, first_all, hb]⟩⟩⟩⟩, by dsimp only; omega, AS.le_of rfl ⟨rfl, rfl, rfl, rfl, rfl, rfl, rfl, trivial⟩ (fun _ => rfl)⟩
        · have hi : a1 ≠ b1 := by omega
          have hb1 : (a1 != b1) = true := by simp [hi]
          rcases hP with ⟨rfl, rfl⟩ | ⟨g, ⟨rfl, hb⟩ | ⟨rfl, hb⟩⟩
          · repeat (first | refine ZS ?_ | refine ZK tm no_specs rfl (by conv => lhs; simp [q1, q2, hm, h64, h80, h96, hw, y1, y2, y3, y4, y5, m1, m2, hb1, hj]) fun _ => ?_ | refine ZL tm no_specs rfl (by conv => lhs; simp [q1, q2, hm, h64, h80, h96, hw, y1, y2, y3, y4, y5, m1, m2, hb1, hj]) fun _ => ?_)
            exact ⟨⟨(k + 1, _, .sl 832 (((lk h 832).getD {}).gen + 1) 0 (1), [⟨a1, a2, p, a3, a4, a5⟩], false), ⟨hlt, by simp only [List.length_append, List.length_cons, List.length_nil]; first | omega | (simp only [List.length_nil] at hl2; omega), by rw [he]; simp [hi, hj], by simp [lk_st, h64], by simp [lk_st, h80], by simp [lk_st, h96], .inr ⟨((lk h 832).getD {}).gen + 1, .inr ⟨by simp, by simp [lk_st, tkB, first_all]⟩⟩⟩⟩, by dsimp only; omega, AS.le_of rfl ⟨rfl, rfl, rfl, rfl, rfl, rfl, rfl, trivial⟩ (fun _ => rfl)⟩
          · repeat (first | refine ZS ?_ | refine ZK tm no_specs rfl (by conv => lhs; simp [q1, q2, hm, h64, h80, h96, hw, y1, y2, y3, y4, y5, m1, m2, hb, tkB, hb1, hj]) fun _ => ?_ | refine ZL tm no_specs rfl (by conv => lhs; simp [q1, q2, hm, h64, h80, h96, hw, y1, y2, y3, y4, y5, m1, m2, hb, tkB, hb1, hj]) fun _ => ?_)
            exact ⟨⟨(k + 1, _, .sl 656 (g + 1) 0 (acc.length + 1), acc ++ [⟨a1, a2, p, a3, a4, a5⟩], false), ⟨hlt, by simp only [List.length_append, List.length_cons, List.length_nil]; first | omega | (simp only [List.length_nil] at hl2; omega), by rw [he]; simp [hi, hj], by simp [lk_st, h64], by simp [lk_st, h80], by simp [lk_st, h96], .inr ⟨g + 1, .inl ⟨by simp, by simp [lk_st, tkB, first_all, hb]⟩⟩⟩⟩, by dsimp only; omega, AS.le_of rfl ⟨rfl, rfl, rfl, rfl, rfl, rfl, rfl, trivial⟩ (fun _ => rfl)⟩
          · repeat (first | refine ZS ?_ | refine ZK tm no_specs rfl (by conv => lhs; simp [q1, q2, hm, h64, h80, h96, hw, y1, y2, y3, y4, y5, m1, m2, hb, tkB, hb1, hj]) fun _ => ?_ | refine ZL tm no_specs rfl (by conv => lhs; simp [q1, q2, hm, h64, h80, h96, hw, y1, y2, y3, y4, y5, m1, m2, hb, tkB, hb1, hj]) fun _ => ?_)
            exact ⟨⟨(k + 1, _, .sl 832 (g + 1) 0 (acc.length + 1), acc ++ [⟨a1, a2, p, a3, a4, a5⟩], false), ⟨hlt, by simp only [List.length_append, List.length_cons, List.length_nil]; first | omega | (simp only [List.length_nil] at hl2; omega), by rw [he]; simp [hi, hj], by simp [lk_st, h64], by simp [lk_st, h80], by simp [lk_st, h96], .inr ⟨g + 1, .inr ⟨by simp, by simp [lk_st, tkB, first_all, hb]⟩⟩⟩⟩, by dsimp only; omega, AS.le_of rfl ⟨rfl, rfl, rfl, rfl, rfl, rfl, rfl, trivial⟩ (fun _ => rfl)⟩
end Go.Abs.Na
namespace Go.Abs.Na
open Go Go.Proofs Go.Abs
set_option maxRecDepth 100000
set_option maxHeartbeats 4000000
set_option linter.unusedSimpArgs false
set_option linter.unusedVariables false
def okM (m : Int) : Bool := m == 1 || m == 2
def okN (m : Int) : Bool := decide (0 ≤ m) && decide (m ≤ 127)
noncomputable def boS (f : Int → Bool) : SpecFn := mkS (fun d : Int => [.int .i64 d]) fun d => (.bool (f d), [])
theorem boS_eq (f : Int → Bool) (d : Int) : boS f [.int .i64 d] [] = some (.bool (f d), []) :=
  mkS_eq (enc := fun d : Int => [AV.int .i64 d]) (fun x y h => by
    simp only [List.cons.injEq, AV.int.injEq, true_and, and_true] at h
    rw [h]) d
attribute [local simp] instA
theorem mo1_ok : FnC Try.prog 75 (boS okM) := by
  refine FnC.walk 75 (fn := Try.f75) Try.func75 rfl (by kernel_rfl) fun m => ?_
  change W _ (Ret _ _ (.bool (m == 1 || m == 2)) []) _ _ ⟨9, [(0, .int .i64 m)], []⟩
  by_cases hA : m = 1
  · have eA : (m == 1) = true := by simp [hA]
    have nA : (m != 1) = false := by simp [hA]
    repeat (first | refine ZS ?_ | refine ZK tm no_specs rfl (by conv => lhs; simp [eA, nA]) fun _ => ?_ | refine ZL tm no_specs rfl (by conv => lhs; simp [eA, nA]) fun _ => ?_)
    simp only [eA, nA, Bool.true_or, Bool.false_or]
    first | exact Ret.dataR rfl (by conv => lhs; simp) (by conv => lhs; simp) (by first | rfl | simp [inlT, inlV]) | fail "no return here"
  · have eA : (m == 1) = false := by simp [hA]
    have nA : (m != 1) = true := by simp [hA]
    by_cases hB : m = 2
    · have eB : (m == 2) = true := by simp [hB]
      have nB : (m != 2) = false := by simp [hB]
      repeat (first | refine ZS ?_ | refine ZK tm no_specs rfl (by conv => lhs; simp [eA, nA, eB, nB]) fun _ => ?_ | refine ZL tm no_specs rfl (by conv => lhs; simp [eA, nA, eB, nB]) fun _ => ?_)
      simp only [eA, nA, eB, nB, Bool.true_or, Bool.false_or]
      first | exact Ret.dataR rfl (by conv => lhs; simp) (by conv => lhs; simp) (by first | rfl | simp [inlT, inlV]) | fail "no return here"
    · have eB : (m == 2) = false := by simp [hB]
      have nB : (m != 2) = true := by simp [hB]
      repeat (first | refine ZS ?_ | refine ZK tm no_specs rfl (by conv => lhs; simp [eA, nA, eB, nB]) fun _ => ?_ | refine ZL tm no_specs rfl (by conv => lhs; simp [eA, nA, eB, nB]) fun _ => ?_)
      simp only [eA, nA, eB, nB, Bool.true_or, Bool.false_or]
      first | exact Ret.dataR rfl (by conv => lhs; simp) (by conv => lhs; simp) (by first | rfl | simp [inlT, inlV]) | fail "no return here"
theorem mo2_ok : FnC Try.prog 79 (boS okM) := by
  refine FnC.walk 79 (fn := Try.f79) Try.func79 rfl (by kernel_rfl) fun m => ?_
  change W _ (Ret _ _ (.bool (m == 1 || m == 2)) []) _ _ ⟨9, [(0, .int .i64 m)], []⟩
  by_cases hA : m = 1
  · have eA : (m == 1) = true := by simp [hA]
    have nA : (m != 1) = false := by simp [hA]
    repeat (first | refine ZS ?_ | refine ZK tm no_specs rfl (by conv => lhs; simp [eA, nA]) fun _ => ?_ | refine ZL tm no_specs rfl (by conv => lhs; simp [eA, nA]) fun _ => ?_)
    simp only [eA, nA, Bool.true_or, Bool.false_or]
    first | exact Ret.dataR rfl (by conv => lhs; simp) (by conv => lhs; simp) (by first | rfl | simp [inlT, inlV]) | fail "no return here"
  · have eA : (m == 1) = false := by simp [hA]
    have nA : (m != 1) = true := by simp [hA]
    by_cases hB : m = 2
    · have eB : (m == 2) = true := by simp [hB]
      have nB : (m != 2) = false := by simp [hB]
      repeat (first | refine ZS ?_ | refine ZK tm no_specs rfl (by conv => lhs; simp [eA, nA, eB, nB]) fun _ => ?_ | refine ZL tm no_specs rfl (by conv => lhs; simp [eA, nA, eB, nB]) fun _ => ?_)
      simp only [eA, nA, eB, nB, Bool.true_or, Bool.false_or]
      first | exact Ret.dataR rfl (by conv => lhs; simp) (by conv => lhs; simp) (by first | rfl | simp [inlT, inlV]) | fail "no return here"
    · have eB : (m == 2) = false := by simp [hB]
      have nB : (m != 2) = true := by simp [hB]
      repeat (first | refine ZS ?_ | refine ZK tm no_specs rfl (by conv => lhs; simp [eA, nA, eB, nB]) fun _ => ?_ | refine ZL tm no_specs rfl (by conv => lhs; simp [eA, nA, eB, nB]) fun _ => ?_)
      simp only [eA, nA, eB, nB, Bool.true_or, Bool.false_or]
      first | exact Ret.dataR rfl (by conv => lhs; simp) (by conv => lhs; simp) (by first | rfl | simp [inlT, inlV]) | fail "no return here"
theorem no1_ok : FnC Try.prog 91 (boS okN) := by
  refine FnC.walk 91 (fn := Try.f91) Try.func91 rfl (by kernel_rfl) fun m => ?_
  change W _ (Ret _ _ (.bool (decide (0 ≤ m) && decide (m ≤ 127))) []) _ _ ⟨9, [(0, .int .i64 m)], []⟩
  by_cases hA : 0 ≤ m
  · have eA : decide (0 ≤ m) = true := by simp [hA]
    by_cases hB : m ≤ 127
    · have eB : decide (m ≤ 127) = true := by simp [hB]
      repeat (first | refine ZS ?_ | refine ZK tm no_specs rfl (by conv => lhs; simp [eA, hA, eB, hB]) fun _ => ?_ | refine ZL tm no_specs rfl (by conv => lhs; simp [eA, hA, eB, hB]) fun _ => ?_)
      simp only [eA, eB, Bool.true_and, Bool.false_and]
      first | exact Ret.dataR rfl (by conv => lhs; simp) (by conv => lhs; simp) (by first | rfl | simp [inlT, inlV]) | fail "no return here"
    · have eB : decide (m ≤ 127) = false := by simp [hB]
      repeat (first | refine ZS ?_ | refine ZK tm no_specs rfl (by conv => lhs; simp [eA, hA, eB, hB]) fun _ => ?_ | refine ZL tm no_specs rfl (by conv => lhs; simp [eA, hA, eB, hB]) fun _ => ?_)
      simp only [eA, eB, Bool.true_and, Bool.false_and]
      first | exact Ret.dataR rfl (by conv => lhs; simp) (by conv => lhs; simp) (by first | rfl | simp [inlT, inlV]) | fail "no return here"
  · have eA : decide (0 ≤ m) = false := by simp [hA]
    repeat (first | refine ZS ?_ | refine ZK tm no_specs rfl (by conv => lhs; simp [eA, hA]) fun _ => ?_ | refine ZL tm no_specs rfl (by conv => lhs; simp [eA, hA]) fun _ => ?_)
    simp only [eA, Bool.true_and, Bool.false_and]
    first | exact Ret.dataR rfl (by conv => lhs; simp) (by conv => lhs; simp) (by first | rfl | simp [inlT, inlV]) | fail "no return here"
theorem no2_ok : FnC Try.prog 95 (boS okN) := by
  refine FnC.walk 95 (fn := Try.f95) Try.func95 rfl (by kernel_rfl) fun m => ?_
  change W _ (Ret _ _ (.bool (decide (0 ≤ m) && decide (m ≤ 127))) []) _ _ ⟨9, [(0, .int .i64 m)], []⟩
  by_cases hA : 0 ≤ m
  · have eA : decide (0 ≤ m) = true := by simp [hA]
    by_cases hB : m ≤ 127
    · have eB : decide (m ≤ 127) = true := by simp [hB]
      repeat (first | refine ZS ?_ | refine ZK tm no_specs rfl (by conv => lhs; simp [eA, hA, eB, hB]) fun _ => ?_ | refine ZL tm no_specs rfl (by conv => lhs; simp [eA, hA, eB, hB]) fun _ => ?_)
      simp only [eA, eB, Bool.true_and, Bool.false_and]
      first | exact Ret.dataR rfl (by conv => lhs; simp) (by conv => lhs; simp) (by first | rfl | simp [inlT, inlV]) | fail "no return here"
    · have eB : decide (m ≤ 127) = false := by simp [hB]
      repeat (first | refine ZS ?_ | refine ZK tm no_specs rfl (by conv => lhs; simp [eA, hA, eB, hB]) fun _ => ?_ | refine ZL tm no_specs rfl (by conv => lhs; simp [eA, hA, eB, hB]) fun _ => ?_)
      simp only [eA, eB, Bool.true_and, Bool.false_and]
      first | exact Ret.dataR rfl (by conv => lhs; simp) (by conv => lhs; simp) (by first | rfl | simp [inlT, inlV]) | fail "no return here"
  · have eA : decide (0 ≤ m) = false := by simp [hA]
    repeat (first | refine ZS ?_ | refine ZK tm no_specs rfl (by conv => lhs; simp [eA, hA]) fun _ => ?_ | refine ZL tm no_specs rfl (by conv => lhs; simp [eA, hA]) fun _ => ?_)
    simp only [eA, Bool.true_and, Bool.false_and]
    first | exact Ret.dataR rfl (by conv => lhs; simp) (by conv => lhs; simp) (by first | rfl | simp [inlT, inlV]) | fail "no return here"
/-! ### One token -/
theorem ob_view (o : Ob) : ∃ i r, o.cells = .int .u64 i :: r := by
  obtain ⟨x0, x1, x2, xp, x4, x5, x6, x7, x8, x9, x10, x11, x12, x13, x14, x15, x16, h, -⟩ := viewObject o.ty
  exact ⟨x0, _, h⟩
noncomputable def oid (o : Ob) : Int := (ob_view o).choose
theorem oid_eq (o : Ob) : ∃ r, o.cells = .int .u64 (oid o) :: r := (ob_view o).choose_spec
theorem agU : aggT Try.prog 30 = some false := by kernel_rfl
/-- The first of cells. -/
def hdA : List AV → AP AV
  | x :: _ => .ret x
  | [] => .fail
theorem mkv_hd (P : Program) (t : TypeId) (cells : List AV) : mkv P t cells = match aggT P t with
  | some true => match szOf P t with
    | some s => if s ≤ cells.length then .ret (.agg (cells.take s)) else .fail
    | none => .fail
  | some false => hdA cells
  | none => .fail := by
  unfold mkv hdA
  rfl
@[local simp] theorem hdA_cons (x : AV) (r : List AV) : hdA (x :: r) = .ret x := rfl
@[local simp] theorem hdA_ob (o : Ob) (l : List AV) : hdA (o.cells ++ l) = .ret (.int .u64 (oid o)) := by
  obtain ⟨r, h⟩ := oid_eq o
  rw [h]
  rfl
@[local simp] theorem hdA_ob' (o : Ob) : hdA o.cells = .ret (.int .u64 (oid o)) := by
  obtain ⟨r, h⟩ := oid_eq o
  rw [h]
  rfl
attribute [-simp] mkv
attribute [local simp] mkv_hd
noncomputable def fineR (t : Tok) : Bool := t.id != 0 && ((t.mode == 0 || okM t.mode) && ((t.want == 0 || (okM t.want && decide (t.mode < t.want))) && ((zO? t.obj || (oid t.obj == t.id && t.mode != 0)) && ((!t.pin || t.mode != 0) && ((!t.due || t.pin) && (t.mode != 0 || t.want != 0))))))
noncomputable def toS (f : Tok → Bool) : SpecFn := mkS (fun d : Tok => [.agg d.c]) fun d => (.bool (f d), [])
theorem toS_eq (f : Tok → Bool) (d : Tok) : toS f [.agg d.c] [] = some (.bool (f d), []) :=
  mkS_eq (enc := fun d : Tok => [AV.agg d.c]) (fun x y h => by
    simp only [List.cons.injEq, AV.agg.injEq, and_true] at h
    rw [Tok.c_inj h]) d
noncomputable def fr_specs : NL Spec := [(79, ⟨1, boS okM⟩), (84, ⟨1, zeS⟩)]
theorem fr_specs_ok : ∀ p ∈ fr_specs, FnC Try.prog p.1 p.2.fn := by
  simp only [fr_specs, List.mem_cons, List.not_mem_nil, or_false]
  rintro p (rfl | rfl)
  · exact mo2_ok
  · exact zer_ok
attribute [local simp] fr_specs
theorem fr_ok : FnC Try.prog 157 (toS fineR) := by
  refine FnC.walk 157 (fn := Try.f157) Try.func157 rfl (by kernel_rfl) fun d => ?_
  obtain ⟨a1, a2, o, a3, a4, a5⟩ := d
  have c1 := boS_eq okM a2
  have c2 := boS_eq okM a3
  have c3 := zeS_eq o
  change W _ (Ret _ _ (.bool (a1 != 0 && ((a2 == 0 || okM a2) && ((a3 == 0 || (okM a3 && decide (a2 < a3))) && ((zO? o || (oid o == a1 && a2 != 0)) && ((!a4 || a2 != 0) && ((!a5 || a4) && (a2 != 0 || a3 != 0)))))))) []) _ _ ⟨80, [(0, .agg (.int .u64 a1 :: .int .i64 a2 :: (o.cells ++ [.int .i64 a3, .bool a4, .bool a5])))], []⟩
  generalize zO? o = z at *
  generalize hoi : oid o = oi at *
  by_cases hI : a1 = 0
  · have eI : (a1 == 0) = true := by simp [hI]
    have nI : (a1 != 0) = false := by simp [hI]
    repeat (first | refine ZS ?_ | refine ZK tm fr_specs_ok rfl (by conv => lhs; simp [c1, c2, c3, hoi, eI, nI]) fun _ => ?_ | refine ZL tm fr_specs_ok rfl (by conv => lhs; simp [c1, c2, c3, hoi, eI, nI]) fun _ => ?_)
    simp only [eI, nI, Bool.true_or, Bool.false_or, Bool.true_and, Bool.false_and, Bool.not_true, Bool.not_false]
    first | exact Ret.dataR rfl (by conv => lhs; simp) (by conv => lhs; simp) (by first | rfl | simp [inlT, inlV]) | fail "no return here"
  · have eI : (a1 == 0) = false := by simp [hI]
    have nI : (a1 != 0) = true := by simp [hI]
    by_cases hM : a2 = 0
    · have eM : (a2 == 0) = true := by simp [hM]
      have nM : (a2 != 0) = false := by simp [hM]
      by_cases hW : a3 = 0
      · have eW : (a3 == 0) = true := by simp [hW]
        have nW : (a3 != 0) = false := by simp [hW]
        cases hZ : z with
        | false =>
          by_cases hE : oi = a1
          · have eE : (oi == a1) = true := by simp [hE]
            have nE : (oi != a1) = false := by simp [hE]
            repeat (first | refine ZS ?_ | refine ZK tm fr_specs_ok rfl (by conv => lhs; simp [c1, c2, c3, hoi, eI, nI, eM, nM, eW, nW, hZ, eE, nE]) fun _ => ?_ | refine ZL tm fr_specs_ok rfl (by conv => lhs; simp [c1, c2, c3, hoi, eI, nI, eM, nM, eW, nW, hZ, eE, nE]) fun _ => ?_)
            simp only [eI, nI, eM, nM, eW, nW, hZ, eE, nE, Bool.true_or, Bool.false_or, Bool.true_and, Bool.false_and, Bool.not_true, Bool.not_false]
            first | exact Ret.dataR rfl (by conv => lhs; simp) (by conv => lhs; simp) (by first | rfl | simp [inlT, inlV]) | fail "no return here"
          · have eE : (oi == a1) = false := by simp [hE]
            have nE : (oi != a1) = true := by simp [hE]
            repeat (first | refine ZS ?_ | refine ZK tm fr_specs_ok rfl (by conv => lhs; simp [c1, c2, c3, hoi, eI, nI, eM, nM, eW, nW, hZ, eE, nE]) fun _ => ?_ | refine ZL tm fr_specs_ok rfl (by conv => lhs; simp [c1, c2, c3, hoi, eI, nI, eM, nM, eW, nW, hZ, eE, nE]) fun _ => ?_)
            simp only [eI, nI, eM, nM, eW, nW, hZ, eE, nE, Bool.true_or, Bool.false_or, Bool.true_and, Bool.false_and, Bool.not_true, Bool.not_false]
            first | exact Ret.dataR rfl (by conv => lhs; simp) (by conv => lhs; simp) (by first | rfl | simp [inlT, inlV]) | fail "no return here"
        | true =>
          cases hP : a4 with
          | false =>
            cases hD : a5 with
            | false =>
              repeat (first | refine ZS ?_ | refine ZK tm fr_specs_ok rfl (by conv => lhs; simp [c1, c2, c3, hoi, eI, nI, eM, nM, eW, nW, hZ, hP, hD]) fun _ => ?_ | refine ZL tm fr_specs_ok rfl (by conv => lhs; simp [c1, c2, c3, hoi, eI, nI, eM, nM, eW, nW, hZ, hP, hD]) fun _ => ?_)
              simp only [eI, nI, eM, nM, eW, nW, hZ, hP, hD, Bool.true_or, Bool.false_or, Bool.true_and, Bool.false_and, Bool.not_true, Bool.not_false]
              first | exact Ret.dataR rfl (by conv => lhs; simp) (by conv => lhs; simp) (by first | rfl | simp [inlT, inlV]) | fail "no return here"
            | true =>
              repeat (first | refine ZS ?_ | refine ZK tm fr_specs_ok rfl (by conv => lhs; simp [c1, c2, c3, hoi, eI, nI, eM, nM, eW, nW, hZ, hP, hD]) fun _ => ?_ | refine ZL tm fr_specs_ok rfl (by conv => lhs; simp [c1, c2, c3, hoi, eI, nI, eM, nM, eW, nW, hZ, hP, hD]) fun _ => ?_)
              simp only [eI, nI, eM, nM, eW, nW, hZ, hP, hD, Bool.true_or, Bool.false_or, Bool.true_and, Bool.false_and, Bool.not_true, Bool.not_false]
              first | exact Ret.dataR rfl (by conv => lhs; simp) (by conv => lhs; simp) (by first | rfl | simp [inlT, inlV]) | fail "no return here"
          | true =>
            repeat (first | refine ZS ?_ | refine ZK tm fr_specs_ok rfl (by conv => lhs; simp [c1, c2, c3, hoi, eI, nI, eM, nM, eW, nW, hZ, hP]) fun _ => ?_ | refine ZL tm fr_specs_ok rfl (by conv => lhs; simp [c1, c2, c3, hoi, eI, nI, eM, nM, eW, nW, hZ, hP]) fun _ => ?_)
            simp only [eI, nI, eM, nM, eW, nW, hZ, hP, Bool.true_or, Bool.false_or, Bool.true_and, Bool.false_and, Bool.not_true, Bool.not_false]
            first | exact Ret.dataR rfl (by conv => lhs; simp) (by conv => lhs; simp) (by first | rfl | simp [inlT, inlV]) | fail "no return here"
      · have eW : (a3 == 0) = false := by simp [hW]
        have nW : (a3 != 0) = true := by simp [hW]
        cases hV : okM a3 with
        | false =>
          repeat (first | refine ZS ?_ | refine ZK tm fr_specs_ok rfl (by conv => lhs; simp [c1, c2, c3, hoi, eI, nI, eM, nM, eW, nW, hV]) fun _ => ?_ | refine ZL tm fr_specs_ok rfl (by conv => lhs; simp [c1, c2, c3, hoi, eI, nI, eM, nM, eW, nW, hV]) fun _ => ?_)
          simp only [eI, nI, eM, nM, eW, nW, hV, Bool.true_or, Bool.false_or, Bool.true_and, Bool.false_and, Bool.not_true, Bool.not_false]
          first | exact Ret.dataR rfl (by conv => lhs; simp) (by conv => lhs; simp) (by first | rfl | simp [inlT, inlV]) | fail "no return here"
        | true =>
          by_cases hG : a2 < a3
          · have eG : decide (a2 < a3) = true := by simp [hG]
            cases hZ : z with
            | false =>
              by_cases hE : oi = a1
              · have eE : (oi == a1) = true := by simp [hE]
                have nE : (oi != a1) = false := by simp [hE]
                repeat (first | refine ZS ?_ | refine ZK tm fr_specs_ok rfl (by conv => lhs; simp [c1, c2, c3, hoi, eI, nI, eM, nM, eW, nW, hV, eG, hG, hZ, eE, nE]) fun _ => ?_ | refine ZL tm fr_specs_ok rfl (by conv => lhs; simp [c1, c2, c3, hoi, eI, nI, eM, nM, eW, nW, hV, eG, hG, hZ, eE, nE]) fun _ => ?_)
                simp only [eI, nI, eM, nM, eW, nW, hV, eG, hZ, eE, nE, Bool.true_or, Bool.false_or, Bool.true_and, Bool.false_and, Bool.not_true, Bool.not_false]
                first | exact Ret.dataR rfl (by conv => lhs; simp) (by conv => lhs; simp) (by first | rfl | simp [inlT, inlV]) | fail "no return here"
              · have eE : (oi == a1) = false := by simp [hE]
                have nE : (oi != a1) = true := by simp [hE]
                repeat (first | refine ZS ?_ | refine ZK tm fr_specs_ok rfl (by conv => lhs; simp [c1, c2, c3, hoi, eI, nI, eM, nM, eW, nW, hV, eG, hG, hZ, eE, nE]) fun _ => ?_ | refine ZL tm fr_specs_ok rfl (by conv => lhs; simp [c1, c2, c3, hoi, eI, nI, eM, nM, eW, nW, hV, eG, hG, hZ, eE, nE]) fun _ => ?_)
                simp only [eI, nI, eM, nM, eW, nW, hV, eG, hZ, eE, nE, Bool.true_or, Bool.false_or, Bool.true_and, Bool.false_and, Bool.not_true, Bool.not_false]
                first | exact Ret.dataR rfl (by conv => lhs; simp) (by conv => lhs; simp) (by first | rfl | simp [inlT, inlV]) | fail "no return here"
            | true =>
              cases hP : a4 with
              | false =>
                cases hD : a5 with
                | false =>
                  repeat (first | refine ZS ?_ | refine ZK tm fr_specs_ok rfl (by conv => lhs; simp [c1, c2, c3, hoi, eI, nI, eM, nM, eW, nW, hV, eG, hG, hZ, hP, hD]) fun _ => ?_ | refine ZL tm fr_specs_ok rfl (by conv => lhs; simp [c1, c2, c3, hoi, eI, nI, eM, nM, eW, nW, hV, eG, hG, hZ, hP, hD]) fun _ => ?_)
                  simp only [eI, nI, eM, nM, eW, nW, hV, eG, hZ, hP, hD, Bool.true_or, Bool.false_or, Bool.true_and, Bool.false_and, Bool.not_true, Bool.not_false]
                  first | exact Ret.dataR rfl (by conv => lhs; simp) (by conv => lhs; simp) (by first | rfl | simp [inlT, inlV]) | fail "no return here"
                | true =>
                  repeat (first | refine ZS ?_ | refine ZK tm fr_specs_ok rfl (by conv => lhs; simp [c1, c2, c3, hoi, eI, nI, eM, nM, eW, nW, hV, eG, hG, hZ, hP, hD]) fun _ => ?_ | refine ZL tm fr_specs_ok rfl (by conv => lhs; simp [c1, c2, c3, hoi, eI, nI, eM, nM, eW, nW, hV, eG, hG, hZ, hP, hD]) fun _ => ?_)
                  simp only [eI, nI, eM, nM, eW, nW, hV, eG, hZ, hP, hD, Bool.true_or, Bool.false_or, Bool.true_and, Bool.false_and, Bool.not_true, Bool.not_false]
                  first | exact Ret.dataR rfl (by conv => lhs; simp) (by conv => lhs; simp) (by first | rfl | simp [inlT, inlV]) | fail "no return here"
              | true =>
                repeat (first | refine ZS ?_ | refine ZK tm fr_specs_ok rfl (by conv => lhs; simp [c1, c2, c3, hoi, eI, nI, eM, nM, eW, nW, hV, eG, hG, hZ, hP]) fun _ => ?_ | refine ZL tm fr_specs_ok rfl (by conv => lhs; simp [c1, c2, c3, hoi, eI, nI, eM, nM, eW, nW, hV, eG, hG, hZ, hP]) fun _ => ?_)
                simp only [eI, nI, eM, nM, eW, nW, hV, eG, hZ, hP, Bool.true_or, Bool.false_or, Bool.true_and, Bool.false_and, Bool.not_true, Bool.not_false]
                first | exact Ret.dataR rfl (by conv => lhs; simp) (by conv => lhs; simp) (by first | rfl | simp [inlT, inlV]) | fail "no return here"
          · have eG : decide (a2 < a3) = false := by simp [hG]
            repeat (first | refine ZS ?_ | refine ZK tm fr_specs_ok rfl (by conv => lhs; simp [c1, c2, c3, hoi, eI, nI, eM, nM, eW, nW, hV, eG, hG]) fun _ => ?_ | refine ZL tm fr_specs_ok rfl (by conv => lhs; simp [c1, c2, c3, hoi, eI, nI, eM, nM, eW, nW, hV, eG, hG]) fun _ => ?_)
            simp only [eI, nI, eM, nM, eW, nW, hV, eG, Bool.true_or, Bool.false_or, Bool.true_and, Bool.false_and, Bool.not_true, Bool.not_false]
            first | exact Ret.dataR rfl (by conv => lhs; simp) (by conv => lhs; simp) (by first | rfl | simp [inlT, inlV]) | fail "no return here"
    · have eM : (a2 == 0) = false := by simp [hM]
      have nM : (a2 != 0) = true := by simp [hM]
      cases hS : okM a2 with
      | false =>
        repeat (first | refine ZS ?_ | refine ZK tm fr_specs_ok rfl (by conv => lhs; simp [c1, c2, c3, hoi, eI, nI, eM, nM, hS]) fun _ => ?_ | refine ZL tm fr_specs_ok rfl (by conv => lhs; simp [c1, c2, c3, hoi, eI, nI, eM, nM, hS]) fun _ => ?_)
        simp only [eI, nI, eM, nM, hS, Bool.true_or, Bool.false_or, Bool.true_and, Bool.false_and, Bool.not_true, Bool.not_false]
        first | exact Ret.dataR rfl (by conv => lhs; simp) (by conv => lhs; simp) (by first | rfl | simp [inlT, inlV]) | fail "no return here"
      | true =>
        by_cases hW : a3 = 0
        · have eW : (a3 == 0) = true := by simp [hW]
          have nW : (a3 != 0) = false := by simp [hW]
          cases hZ : z with
          | false =>
            by_cases hE : oi = a1
            · have eE : (oi == a1) = true := by simp [hE]
              have nE : (oi != a1) = false := by simp [hE]
              cases hP : a4 with
              | false =>
                cases hD : a5 with
                | false =>
                  repeat (first | refine ZS ?_ | refine ZK tm fr_specs_ok rfl (by conv => lhs; simp [c1, c2, c3, hoi, eI, nI, eM, nM, hS, eW, nW, hZ, eE, nE, hP, hD]) fun _ => ?_ | refine ZL tm fr_specs_ok rfl (by conv => lhs; simp [c1, c2, c3, hoi, eI, nI, eM, nM, hS, eW, nW, hZ, eE, nE, hP, hD]) fun _ => ?_)
                  simp only [eI, nI, eM, nM, hS, eW, nW, hZ, eE, nE, hP, hD, Bool.true_or, Bool.false_or, Bool.true_and, Bool.false_and, Bool.not_true, Bool.not_false]
                  first | exact Ret.dataR rfl (by conv => lhs; simp) (by conv => lhs; simp) (by first | rfl | simp [inlT, inlV]) | fail "no return here"
                | true =>
                  repeat (first | refine ZS ?_ | refine ZK tm fr_specs_ok rfl (by conv => lhs; simp [c1, c2, c3, hoi, eI, nI, eM, nM, hS, eW, nW, hZ, eE, nE, hP, hD]) fun _ => ?_ | refine ZL tm fr_specs_ok rfl (by conv => lhs; simp [c1, c2, c3, hoi, eI, nI, eM, nM, hS, eW, nW, hZ, eE, nE, hP, hD]) fun _ => ?_)
                  simp only [eI, nI, eM, nM, hS, eW, nW, hZ, eE, nE, hP, hD, Bool.true_or, Bool.false_or, Bool.true_and, Bool.false_and, Bool.not_true, Bool.not_false]
                  first | exact Ret.dataR rfl (by conv => lhs; simp) (by conv => lhs; simp) (by first | rfl | simp [inlT, inlV]) | fail "no return here"
              | true =>
                cases hD : a5 with
                | false =>
                  repeat (first | refine ZS ?_ | refine ZK tm fr_specs_ok rfl (by conv => lhs; simp [c1, c2, c3, hoi, eI, nI, eM, nM, hS, eW, nW, hZ, eE, nE, hP, hD]) fun _ => ?_ | refine ZL tm fr_specs_ok rfl (by conv => lhs; simp [c1, c2, c3, hoi, eI, nI, eM, nM, hS, eW, nW, hZ, eE, nE, hP, hD]) fun _ => ?_)
                  simp only [eI, nI, eM, nM, hS, eW, nW, hZ, eE, nE, hP, hD, Bool.true_or, Bool.false_or, Bool.true_and, Bool.false_and, Bool.not_true, Bool.not_false]
                  first | exact Ret.dataR rfl (by conv => lhs; simp) (by conv => lhs; simp) (by first | rfl | simp [inlT, inlV]) | fail "no return here"
                | true =>
                  repeat (first | refine ZS ?_ | refine ZK tm fr_specs_ok rfl (by conv => lhs; simp [c1, c2, c3, hoi, eI, nI, eM, nM, hS, eW, nW, hZ, eE, nE, hP, hD]) fun _ => ?_ | refine ZL tm fr_specs_ok rfl (by conv => lhs; simp [c1, c2, c3, hoi, eI, nI, eM, nM, hS, eW, nW, hZ, eE, nE, hP, hD]) fun _ => ?_)
                  simp only [eI, nI, eM, nM, hS, eW, nW, hZ, eE, nE, hP, hD, Bool.true_or, Bool.false_or, Bool.true_and, Bool.false_and, Bool.not_true, Bool.not_false]
                  first | exact Ret.dataR rfl (by conv => lhs; simp) (by conv => lhs; simp) (by first | rfl | simp [inlT, inlV]) | fail "no return here"
            · have eE : (oi == a1) = false := by simp [hE]
              have nE : (oi != a1) = true := by simp [hE]
              repeat (first | refine ZS ?_ | refine ZK tm fr_specs_ok rfl (by conv => lhs; simp [c1, c2, c3, hoi, eI, nI, eM, nM, hS, eW, nW, hZ, eE, nE]) fun _ => ?_ | refine ZL tm fr_specs_ok rfl (by conv => lhs; simp [c1, c2, c3, hoi, eI, nI, eM, nM, hS, eW, nW, hZ, eE, nE]) fun _ => ?_)
              simp only [eI, nI, eM, nM, hS, eW, nW, hZ, eE, nE, Bool.true_or, Bool.false_or, Bool.true_and, Bool.false_and, Bool.not_true, Bool.not_false]
              first | exact Ret.dataR rfl (by conv => lhs; simp) (by conv => lhs; simp) (by first | rfl | simp [inlT, inlV]) | fail "no return here"
          | true =>
            cases hP : a4 with
            | false =>
              cases hD : a5 with
              | false =>
                repeat (first | refine ZS ?_ | refine ZK tm fr_specs_ok rfl (by conv => lhs; simp [c1, c2, c3, hoi, eI, nI, eM, nM, hS, eW, nW, hZ, hP, hD]) fun _ => ?_ | refine ZL tm fr_specs_ok rfl (by conv => lhs; simp [c1, c2, c3, hoi, eI, nI, eM, nM, hS, eW, nW, hZ, hP, hD]) fun _ => ?_)
                simp only [eI, nI, eM, nM, hS, eW, nW, hZ, hP, hD, Bool.true_or, Bool.false_or, Bool.true_and, Bool.false_and, Bool.not_true, Bool.not_false]
                first | exact Ret.dataR rfl (by conv => lhs; simp) (by conv => lhs; simp) (by first | rfl | simp [inlT, inlV]) | fail "no return here"
              | true =>
                repeat (first | refine ZS ?_ | refine ZK tm fr_specs_ok rfl (by conv => lhs; simp [c1, c2, c3, hoi, eI, nI, eM, nM, hS, eW, nW, hZ, hP, hD]) fun _ => ?_ | refine ZL tm fr_specs_ok rfl (by conv => lhs; simp [c1, c2, c3, hoi, eI, nI, eM, nM, hS, eW, nW, hZ, hP, hD]) fun _ => ?_)
                simp only [eI, nI, eM, nM, hS, eW, nW, hZ, hP, hD, Bool.true_or, Bool.false_or, Bool.true_and, Bool.false_and, Bool.not_true, Bool.not_false]
                first | exact Ret.dataR rfl (by conv => lhs; simp) (by conv => lhs; simp) (by first | rfl | simp [inlT, inlV]) | fail "no return here"
            | true =>
              cases hD : a5 with
              | false =>
                repeat (first | refine ZS ?_ | refine ZK tm fr_specs_ok rfl (by conv => lhs; simp [c1, c2, c3, hoi, eI, nI, eM, nM, hS, eW, nW, hZ, hP, hD]) fun _ => ?_ | refine ZL tm fr_specs_ok rfl (by conv => lhs; simp [c1, c2, c3, hoi, eI, nI, eM, nM, hS, eW, nW, hZ, hP, hD]) fun _ => ?_)
                simp only [eI, nI, eM, nM, hS, eW, nW, hZ, hP, hD, Bool.true_or, Bool.false_or, Bool.true_and, Bool.false_and, Bool.not_true, Bool.not_false]
                first | exact Ret.dataR rfl (by conv => lhs; simp) (by conv => lhs; simp) (by first | rfl | simp [inlT, inlV]) | fail "no return here"
              | true =>
                repeat (first | refine ZS ?_ | refine ZK tm fr_specs_ok rfl (by conv => lhs; simp [c1, c2, c3, hoi, eI, nI, eM, nM, hS, eW, nW, hZ, hP, hD]) fun _ => ?_ | refine ZL tm fr_specs_ok rfl (by conv => lhs; simp [c1, c2, c3, hoi, eI, nI, eM, nM, hS, eW, nW, hZ, hP, hD]) fun _ => ?_)
                simp only [eI, nI, eM, nM, hS, eW, nW, hZ, hP, hD, Bool.true_or, Bool.false_or, Bool.true_and, Bool.false_and, Bool.not_true, Bool.not_false]
                first | exact Ret.dataR rfl (by conv => lhs; simp) (by conv => lhs; simp) (by first | rfl | simp [inlT, inlV]) | fail "no return here"
        · have eW : (a3 == 0) = false := by simp [hW]
          have nW : (a3 != 0) = true := by simp [hW]
          cases hV : okM a3 with
          | false =>
            repeat (first | refine ZS ?_ | refine ZK tm fr_specs_ok rfl (by conv => lhs; simp [c1, c2, c3, hoi, eI, nI, eM, nM, hS, eW, nW, hV]) fun _ => ?_ | refine ZL tm fr_specs_ok rfl (by conv => lhs; simp [c1, c2, c3, hoi, eI, nI, eM, nM, hS, eW, nW, hV]) fun _ => ?_)
            simp only [eI, nI, eM, nM, hS, eW, nW, hV, Bool.true_or, Bool.false_or, Bool.true_and, Bool.false_and, Bool.not_true, Bool.not_false]
            first | exact Ret.dataR rfl (by conv => lhs; simp) (by conv => lhs; simp) (by first | rfl | simp [inlT, inlV]) | fail "no return here"
          | true =>
            by_cases hG : a2 < a3
            · have eG : decide (a2 < a3) = true := by simp [hG]
              cases hZ : z with
              | false =>
                by_cases hE : oi = a1
                · have eE : (oi == a1) = true := by simp [hE]
                  have nE : (oi != a1) = false := by simp [hE]
                  cases hP : a4 with
                  | false =>
                    cases hD : a5 with
                    | false =>
                      repeat (first | refine ZS ?_ | refine ZK tm fr_specs_ok rfl (by conv => lhs; simp [c1, c2, c3, hoi, eI, nI, eM, nM, hS, eW, nW, hV, eG, hG, hZ, eE, nE, hP, hD]) fun _ => ?_ | refine ZL tm fr_specs_ok rfl (by conv => lhs; simp [c1, c2, c3, hoi, eI, nI, eM, nM, hS, eW, nW, hV, eG, hG, hZ, eE, nE, hP, hD]) fun _ => ?_)
                      simp only [eI, nI, eM, nM, hS, eW, nW, hV, eG, hZ, eE, nE, hP, hD, Bool.true_or, Bool.false_or, Bool.true_and, Bool.false_and, Bool.not_true, Bool.not_false]
                      first | exact Ret.dataR rfl (by conv => lhs; simp) (by conv => lhs; simp) (by first | rfl | simp [inlT, inlV]) | fail "no return here"
                    | true =>
                      repeat (first | refine ZS ?_ | refine ZK tm fr_specs_ok rfl (by conv => lhs; simp [c1, c2, c3, hoi, eI, nI, eM, nM, hS, eW, nW, hV, eG, hG, hZ, eE, nE, hP, hD]) fun _ => ?_ | refine ZL tm fr_specs_ok rfl (by conv => lhs; simp [c1, c2, c3, hoi, eI, nI, eM, nM, hS, eW, nW, hV, eG, hG, hZ, eE, nE, hP, hD]) fun _ => ?_)
                      simp only [eI, nI, eM, nM, hS, eW, nW, hV, eG, hZ, eE, nE, hP, hD, Bool.true_or, Bool.false_or, Bool.true_and, Bool.false_and, Bool.not_true, Bool.not_false]
                      first | exact Ret.dataR rfl (by conv => lhs; simp) (by conv => lhs; simp) (by first | rfl | simp [inlT, inlV]) | fail "no return here"
                  | true =>
                    cases hD : a5 with
                    | false =>
                      repeat (first | refine ZS ?_ | refine ZK tm fr_specs_ok rfl (by conv => lhs; simp [c1, c2, c3, hoi, eI, nI, eM, nM, hS, eW, nW, hV, eG, hG, hZ, eE, nE, hP, hD]) fun _ => ?_ | refine ZL tm fr_specs_ok rfl (by conv => lhs; simp [c1, c2, c3, hoi, eI, nI, eM, nM, hS, eW, nW, hV, eG, hG, hZ, eE, nE, hP, hD]) fun _ => ?_)
                      simp only [eI, nI, eM, nM, hS, eW, nW, hV, eG, hZ, eE, nE, hP, hD, Bool.true_or, Bool.false_or, Bool.true_and, Bool.false_and, Bool.not_true, Bool.not_false]
                      first | exact Ret.dataR rfl (by conv => lhs; simp) (by conv => lhs; simp) (by first | rfl | simp [inlT, inlV]) | fail "no return here"
                    | true =>
                      repeat (first | refine ZS ?_ | refine ZK tm fr_specs_ok rfl (by conv => lhs; simp [c1, c2, c3, hoi, eI, nI, eM, nM, hS, eW, nW, hV, eG, hG, hZ, eE, nE, hP, hD]) fun _ => ?_ | refine ZL tm fr_specs_ok rfl (by conv => lhs; simp [c1, c2, c3, hoi, eI, nI, eM, nM, hS, eW, nW, hV, eG, hG, hZ, eE, nE, hP, hD]) fun _ => ?_)
                      simp only [eI, nI, eM, nM, hS, eW, nW, hV, eG, hZ, eE, nE, hP, hD, Bool.true_or, Bool.false_or, Bool.true_and, Bool.false_and, Bool.not_true, Bool.not_false]
                      first | exact Ret.dataR rfl (by conv => lhs; simp) (by conv => lhs; simp) (by first | rfl | simp [inlT, inlV]) | fail "no return here"
                · have eE : (oi == a1) = false := by simp [hE]
                  have nE : (oi != a1) = true := by simp [hE]
                  repeat (first | refine ZS ?_ | refine ZK tm fr_specs_ok rfl (by conv => lhs; simp [c1, c2, c3, hoi, eI, nI, eM, nM, hS, eW, nW, hV, eG, hG, hZ, eE, nE]) fun _ => ?_ | refine ZL tm fr_specs_ok rfl (by conv => lhs; simp [c1, c2, c3, hoi, eI, nI, eM, nM, hS, eW, nW, hV, eG, hG, hZ, eE, nE]) fun _ => ?_)
                  simp only [eI, nI, eM, nM, hS, eW, nW, hV, eG, hZ, eE, nE, Bool.true_or, Bool.false_or, Bool.true_and, Bool.false_and, Bool.not_true, Bool.not_false]
                  first | exact Ret.dataR rfl (by conv => lhs; simp) (by conv => lhs; simp) (by first | rfl | simp [inlT, inlV]) | fail "no return here"
              | true =>
                cases hP : a4 with
                | false =>
                  cases hD : a5 with
                  | false =>
                    repeat (first | refine ZS ?_ | refine ZK tm fr_specs_ok rfl (by conv => lhs; simp [c1, c2, c3, hoi, eI, nI, eM, nM, hS, eW, nW, hV, eG, hG, hZ, hP, hD]) fun _ => ?_ | refine ZL tm fr_specs_ok rfl (by conv => lhs; simp [c1, c2, c3, hoi, eI, nI, eM, nM, hS, eW, nW, hV, eG, hG, hZ, hP, hD]) fun _ => ?_)
                    simp only [eI, nI, eM, nM, hS, eW, nW, hV, eG, hZ, hP, hD, Bool.true_or, Bool.false_or, Bool.true_and, Bool.false_and, Bool.not_true, Bool.not_false]
                    first | exact Ret.dataR rfl (by conv => lhs; simp) (by conv => lhs; simp) (by first | rfl | simp [inlT, inlV]) | fail "no return here"
                  | true =>
                    repeat (first | refine ZS ?_ | refine ZK tm fr_specs_ok rfl (by conv => lhs; simp [c1, c2, c3, hoi, eI, nI, eM, nM, hS, eW, nW, hV, eG, hG, hZ, hP, hD]) fun _ => ?_ | refine ZL tm fr_specs_ok rfl (by conv => lhs; simp [c1, c2, c3, hoi, eI, nI, eM, nM, hS, eW, nW, hV, eG, hG, hZ, hP, hD]) fun _ => ?_)
                    simp only [eI, nI, eM, nM, hS, eW, nW, hV, eG, hZ, hP, hD, Bool.true_or, Bool.false_or, Bool.true_and, Bool.false_and, Bool.not_true, Bool.not_false]
                    first | exact Ret.dataR rfl (by conv => lhs; simp) (by conv => lhs; simp) (by first | rfl | simp [inlT, inlV]) | fail "no return here"
                | true =>
                  cases hD : a5 with
                  | false =>
                    repeat (first | refine ZS ?_ | refine ZK tm fr_specs_ok rfl (by conv => lhs; simp [c1, c2, c3, hoi, eI, nI, eM, nM, hS, eW, nW, hV, eG, hG, hZ, hP, hD]) fun _ => ?_ | refine ZL tm fr_specs_ok rfl (by conv => lhs; simp [c1, c2, c3, hoi, eI, nI, eM, nM, hS, eW, nW, hV, eG, hG, hZ, hP, hD]) fun _ => ?_)
                    simp only [eI, nI, eM, nM, hS, eW, nW, hV, eG, hZ, hP, hD, Bool.true_or, Bool.false_or, Bool.true_and, Bool.false_and, Bool.not_true, Bool.not_false]
                    first | exact Ret.dataR rfl (by conv => lhs; simp) (by conv => lhs; simp) (by first | rfl | simp [inlT, inlV]) | fail "no return here"
                  | true =>
                    repeat (first | refine ZS ?_ | refine ZK tm fr_specs_ok rfl (by conv => lhs; simp [c1, c2, c3, hoi, eI, nI, eM, nM, hS, eW, nW, hV, eG, hG, hZ, hP, hD]) fun _ => ?_ | refine ZL tm fr_specs_ok rfl (by conv => lhs; simp [c1, c2, c3, hoi, eI, nI, eM, nM, hS, eW, nW, hV, eG, hG, hZ, hP, hD]) fun _ => ?_)
                    simp only [eI, nI, eM, nM, hS, eW, nW, hV, eG, hZ, hP, hD, Bool.true_or, Bool.false_or, Bool.true_and, Bool.false_and, Bool.not_true, Bool.not_false]
                    first | exact Ret.dataR rfl (by conv => lhs; simp) (by conv => lhs; simp) (by first | rfl | simp [inlT, inlV]) | fail "no return here"
            · have eG : decide (a2 < a3) = false := by simp [hG]
              repeat (first | refine ZS ?_ | refine ZK tm fr_specs_ok rfl (by conv => lhs; simp [c1, c2, c3, hoi, eI, nI, eM, nM, hS, eW, nW, hV, eG, hG]) fun _ => ?_ | refine ZL tm fr_specs_ok rfl (by conv => lhs; simp [c1, c2, c3, hoi, eI, nI, eM, nM, hS, eW, nW, hV, eG, hG]) fun _ => ?_)
              simp only [eI, nI, eM, nM, hS, eW, nW, hV, eG, Bool.true_or, Bool.false_or, Bool.true_and, Bool.false_and, Bool.not_true, Bool.not_false]
              first | exact Ret.dataR rfl (by conv => lhs; simp) (by conv => lhs; simp) (by first | rfl | simp [inlT, inlV]) | fail "no return here"
end Go.Abs.Na
namespace Go.Abs.Na
open Go Go.Proofs Go.Abs
set_option maxRecDepth 100000
set_option maxHeartbeats 4000000
set_option linter.unusedSimpArgs false
set_option linter.unusedVariables false
attribute [local simp] instA
attribute [-simp] mkv
attribute [local simp] mkv_hd hdA_cons hdA_ob hdA_ob'
noncomputable def fi_specs : NL Spec := [(158, ⟨1, zeS⟩)]
theorem fi_specs_ok : ∀ p ∈ fi_specs, FnC Try.prog p.1 p.2.fn := by
  simp only [fi_specs, List.mem_cons, List.not_mem_nil, or_false]
  rintro p rfl
  exact zep_ok
attribute [local simp] fi_specs
noncomputable def fitS : SpecFn := mkS (fun d : Ob × Int => [.agg d.1.cells, .int .u64 d.2]) fun d => (.bool (oid d.1 == d.2 || zO? d.1), [])
theorem fitS_eq (o : Ob) (id : Int) : fitS [.agg o.cells, .int .u64 id] [] = some (.bool (oid o == id || zO? o), []) :=
  mkS_eq (enc := fun d : Ob × Int => [AV.agg d.1.cells, .int .u64 d.2]) (fun x y h => by
    obtain ⟨a, b⟩ := x
    obtain ⟨a', b'⟩ := y
    simp only [List.cons.injEq, AV.agg.injEq, AV.int.injEq, true_and, and_true] at h
    obtain ⟨h, rfl⟩ := h
    cases Td.ext h
    rfl) (o, id)
theorem fit_ok : FnC Try.prog 82 fitS := by
  refine FnC.walk 82 (fn := Try.f82) Try.func82 rfl (by kernel_rfl) fun d => ?_
  obtain ⟨o, id⟩ := d
  have c3 := zeS_eq o
  change W _ (Ret _ _ (.bool (oid o == id || zO? o)) []) _ _ ⟨13, [(0, .agg o.cells), (1, .int .u64 id)], []⟩
  generalize zO? o = z at *
  generalize hoi : oid o = oi at *
  by_cases hE : oi = id
  · have eE : (oi == id) = true := by simp [hE]
    have nE : (oi != id) = false := by simp [hE]
    repeat (first | refine ZS ?_ | refine ZK tm fi_specs_ok rfl (by conv => lhs; simp [c3, hoi, eE, nE]) fun _ => ?_ | refine ZL tm fi_specs_ok rfl (by conv => lhs; simp [c3, hoi, eE, nE]) fun _ => ?_)
    simp only [eE, nE, Bool.true_or, Bool.false_or]
    first | exact Ret.dataR rfl (by conv => lhs; simp) (by conv => lhs; simp) (by first | rfl | simp [inlT, inlV]) | fail "no return here"
  · have eE : (oi == id) = false := by simp [hE]
    have nE : (oi != id) = true := by simp [hE]
    cases hZ : z with
    | false =>
      repeat (first | refine ZS ?_ | refine ZK tm fi_specs_ok rfl (by conv => lhs; simp [c3, hoi, eE, nE, hZ]) fun _ => ?_ | refine ZL tm fi_specs_ok rfl (by conv => lhs; simp [c3, hoi, eE, nE, hZ]) fun _ => ?_)
      simp only [eE, nE, hZ, Bool.true_or, Bool.false_or]
      first | exact Ret.dataR rfl (by conv => lhs; simp) (by conv => lhs; simp) (by first | rfl | simp [inlT, inlV]) | fail "no return here"
    | true =>
      repeat (first | refine ZS ?_ | refine ZK tm fi_specs_ok rfl (by conv => lhs; simp [c3, hoi, eE, nE, hZ]) fun _ => ?_ | refine ZL tm fi_specs_ok rfl (by conv => lhs; simp [c3, hoi, eE, nE, hZ]) fun _ => ?_)
      simp only [eE, nE, hZ, Bool.true_or, Bool.false_or]
      first | exact Ret.dataR rfl (by conv => lhs; simp) (by conv => lhs; simp) (by first | rfl | simp [inlT, inlV]) | fail "no return here"
noncomputable def fineI (t : Tok) : Bool := !(t.id == 0 || ((!okM t.mode && t.mode != 0) || ((!okM t.want && t.want != 0) || ((!okM t.mode && !okM t.want) || (okM t.want && decide (t.want ≤ t.mode)))))) && (!((t.pin && !okM t.mode) || ((t.due && !t.pin) || (!okM t.mode && !zO? t.obj))) && (oid t.obj == t.id || zO? t.obj))
noncomputable def fn_specs : NL Spec := [(75, ⟨1, boS okM⟩), (158, ⟨1, zeS⟩), (82, ⟨1, fitS⟩)]
theorem fn_specs_ok : ∀ p ∈ fn_specs, FnC Try.prog p.1 p.2.fn := by
  simp only [fn_specs, List.mem_cons, List.not_mem_nil, or_false]
  rintro p (rfl | rfl | rfl)
  · exact mo1_ok
  · exact zep_ok
  · exact fit_ok
attribute [local simp] fn_specs
theorem fn_ok : FnC Try.prog 151 (toS fineI) := by
  refine FnC.walk 151 (fn := Try.f151) Try.func151 rfl (by kernel_rfl) fun d => ?_
  obtain ⟨a1, a2, o, a3, a4, a5⟩ := d
  have c1 := boS_eq okM a2
  have c2 := boS_eq okM a3
  have c3 := zeS_eq o
  have c4 := fitS_eq o a1
  change W _ (Ret _ _ (.bool (!(a1 == 0 || ((!okM a2 && a2 != 0) || ((!okM a3 && a3 != 0) || ((!okM a2 && !okM a3) || (okM a3 && decide (a3 ≤ a2)))))) && (!((a4 && !okM a2) || ((a5 && !a4) || (!okM a2 && !zO? o))) && (oid o == a1 || zO? o)))) []) _ _ ⟨70, [(0, .agg (.int .u64 a1 :: .int .i64 a2 :: (o.cells ++ [.int .i64 a3, .bool a4, .bool a5])))], []⟩
  generalize hfi : (oid o == a1 || zO? o) = fi at *
  generalize zO? o = z at *
  by_cases hI : a1 = 0
  · have eI : (a1 == 0) = true := by simp [hI]
    have nI : (a1 != 0) = false := by simp [hI]
    repeat (first | refine ZS ?_ | refine ZK tm fn_specs_ok rfl (by conv => lhs; simp [c1, c2, c3, c4, eI, nI]) fun _ => ?_ | refine ZL tm fn_specs_ok rfl (by conv => lhs; simp [c1, c2, c3, c4, eI, nI]) fun _ => ?_)
    simp only [eI, nI, Bool.true_or, Bool.false_or, Bool.or_true, Bool.or_false, Bool.true_and, Bool.false_and, Bool.and_true, Bool.and_false, Bool.not_true, Bool.not_false]
    first | exact Ret.dataR rfl (by conv => lhs; simp) (by conv => lhs; simp) (by first | rfl | simp [inlT, inlV]) | fail "no return here"
  · have eI : (a1 == 0) = false := by simp [hI]
    have nI : (a1 != 0) = true := by simp [hI]
    cases hS : okM a2 with
    | false =>
      by_cases hM : a2 = 0
      · have eM : (a2 == 0) = true := by simp [hM]
        have nM : (a2 != 0) = false := by simp [hM]
        cases hV : okM a3 with
        | false =>
          by_cases hW : a3 = 0
          · have eW : (a3 == 0) = true := by simp [hW]
            have nW : (a3 != 0) = false := by simp [hW]
            repeat (first | refine ZS ?_ | refine ZK tm fn_specs_ok rfl (by conv => lhs; simp [c1, c2, c3, c4, eI, nI, hS, eM, nM, hV, eW, nW]) fun _ => ?_ | refine ZL tm fn_specs_ok rfl (by conv => lhs; simp [c1, c2, c3, c4, eI, nI, hS, eM, nM, hV, eW, nW]) fun _ => ?_)
            simp only [eI, nI, hS, eM, nM, hV, eW, nW, Bool.true_or, Bool.false_or, Bool.or_true, Bool.or_false, Bool.true_and, Bool.false_and, Bool.and_true, Bool.and_false, Bool.not_true, Bool.not_false]
            first | exact Ret.dataR rfl (by conv => lhs; simp) (by conv => lhs; simp) (by first | rfl | simp [inlT, inlV]) | fail "no return here"
          · have eW : (a3 == 0) = false := by simp [hW]
            have nW : (a3 != 0) = true := by simp [hW]
            repeat (first | refine ZS ?_ | refine ZK tm fn_specs_ok rfl (by conv => lhs; simp [c1, c2, c3, c4, eI, nI, hS, eM, nM, hV, eW, nW]) fun _ => ?_ | refine ZL tm fn_specs_ok rfl (by conv => lhs; simp [c1, c2, c3, c4, eI, nI, hS, eM, nM, hV, eW, nW]) fun _ => ?_)
            simp only [eI, nI, hS, eM, nM, hV, eW, nW, Bool.true_or, Bool.false_or, Bool.or_true, Bool.or_false, Bool.true_and, Bool.false_and, Bool.and_true, Bool.and_false, Bool.not_true, Bool.not_false]
            first | exact Ret.dataR rfl (by conv => lhs; simp) (by conv => lhs; simp) (by first | rfl | simp [inlT, inlV]) | fail "no return here"
        | true =>
          by_cases hG : a3 ≤ a2
          · have eG : decide (a3 ≤ a2) = true := by simp [hG]
            repeat (first | refine ZS ?_ | refine ZK tm fn_specs_ok rfl (by conv => lhs; simp [c1, c2, c3, c4, eI, nI, hS, eM, nM, hV, eG, hG]) fun _ => ?_ | refine ZL tm fn_specs_ok rfl (by conv => lhs; simp [c1, c2, c3, c4, eI, nI, hS, eM, nM, hV, eG, hG]) fun _ => ?_)
            simp only [eI, nI, hS, eM, nM, hV, eG, Bool.true_or, Bool.false_or, Bool.or_true, Bool.or_false, Bool.true_and, Bool.false_and, Bool.and_true, Bool.and_false, Bool.not_true, Bool.not_false]
            first | exact Ret.dataR rfl (by conv => lhs; simp) (by conv => lhs; simp) (by first | rfl | simp [inlT, inlV]) | fail "no return here"
          · have eG : decide (a3 ≤ a2) = false := by simp [hG]
            cases hP : a4 with
            | false =>
              cases hD : a5 with
              | false =>
                cases hZ : z with
                | false =>
                  repeat (first | refine ZS ?_ | refine ZK tm fn_specs_ok rfl (by conv => lhs; simp [c1, c2, c3, c4, eI, nI, hS, eM, nM, hV, eG, hG, hP, hD, hZ]) fun _ => ?_ | refine ZL tm fn_specs_ok rfl (by conv => lhs; simp [c1, c2, c3, c4, eI, nI, hS, eM, nM, hV, eG, hG, hP, hD, hZ]) fun _ => ?_)
                  simp only [eI, nI, hS, eM, nM, hV, eG, hP, hD, hZ, Bool.true_or, Bool.false_or, Bool.or_true, Bool.or_false, Bool.true_and, Bool.false_and, Bool.and_true, Bool.and_false, Bool.not_true, Bool.not_false]
                  first | exact Ret.dataR rfl (by conv => lhs; simp) (by conv => lhs; simp) (by first | rfl | simp [inlT, inlV]) | fail "no return here"
                | true =>
                  repeat (first | refine ZS ?_ | refine ZK tm fn_specs_ok rfl (by conv => lhs; simp [c1, c2, c3, c4, eI, nI, hS, eM, nM, hV, eG, hG, hP, hD, hZ]) fun _ => ?_ | refine ZL tm fn_specs_ok rfl (by conv => lhs; simp [c1, c2, c3, c4, eI, nI, hS, eM, nM, hV, eG, hG, hP, hD, hZ]) fun _ => ?_)
                  simp only [eI, nI, hS, eM, nM, hV, eG, hP, hD, hZ, Bool.true_or, Bool.false_or, Bool.or_true, Bool.or_false, Bool.true_and, Bool.false_and, Bool.and_true, Bool.and_false, Bool.not_true, Bool.not_false]
                  first | exact Ret.dataR rfl (by conv => lhs; simp) (by conv => lhs; simp) (by first | rfl | simp [inlT, inlV]) | fail "no return here"
              | true =>
                repeat (first | refine ZS ?_ | refine ZK tm fn_specs_ok rfl (by conv => lhs; simp [c1, c2, c3, c4, eI, nI, hS, eM, nM, hV, eG, hG, hP, hD]) fun _ => ?_ | refine ZL tm fn_specs_ok rfl (by conv => lhs; simp [c1, c2, c3, c4, eI, nI, hS, eM, nM, hV, eG, hG, hP, hD]) fun _ => ?_)
                simp only [eI, nI, hS, eM, nM, hV, eG, hP, hD, Bool.true_or, Bool.false_or, Bool.or_true, Bool.or_false, Bool.true_and, Bool.false_and, Bool.and_true, Bool.and_false, Bool.not_true, Bool.not_false]
                first | exact Ret.dataR rfl (by conv => lhs; simp) (by conv => lhs; simp) (by first | rfl | simp [inlT, inlV]) | fail "no return here"
            | true =>
              repeat (first | refine ZS ?_ | refine ZK tm fn_specs_ok rfl (by conv => lhs; simp [c1, c2, c3, c4, eI, nI, hS, eM, nM, hV, eG, hG, hP]) fun _ => ?_ | refine ZL tm fn_specs_ok rfl (by conv => lhs; simp [c1, c2, c3, c4, eI, nI, hS, eM, nM, hV, eG, hG, hP]) fun _ => ?_)
              simp only [eI, nI, hS, eM, nM, hV, eG, hP, Bool.true_or, Bool.false_or, Bool.or_true, Bool.or_false, Bool.true_and, Bool.false_and, Bool.and_true, Bool.and_false, Bool.not_true, Bool.not_false]
              first | exact Ret.dataR rfl (by conv => lhs; simp) (by conv => lhs; simp) (by first | rfl | simp [inlT, inlV]) | fail "no return here"
      · have eM : (a2 == 0) = false := by simp [hM]
        have nM : (a2 != 0) = true := by simp [hM]
        repeat (first | refine ZS ?_ | refine ZK tm fn_specs_ok rfl (by conv => lhs; simp [c1, c2, c3, c4, eI, nI, hS, eM, nM]) fun _ => ?_ | refine ZL tm fn_specs_ok rfl (by conv => lhs; simp [c1, c2, c3, c4, eI, nI, hS, eM, nM]) fun _ => ?_)
        simp only [eI, nI, hS, eM, nM, Bool.true_or, Bool.false_or, Bool.or_true, Bool.or_false, Bool.true_and, Bool.false_and, Bool.and_true, Bool.and_false, Bool.not_true, Bool.not_false]
        first | exact Ret.dataR rfl (by conv => lhs; simp) (by conv => lhs; simp) (by first | rfl | simp [inlT, inlV]) | fail "no return here"
    | true =>
      cases hV : okM a3 with
      | false =>
        by_cases hW : a3 = 0
        · have eW : (a3 == 0) = true := by simp [hW]
          have nW : (a3 != 0) = false := by simp [hW]
          cases hP : a4 with
          | false =>
            cases hD : a5 with
            | false =>
              repeat (first | refine ZS ?_ | refine ZK tm fn_specs_ok rfl (by conv => lhs; simp [c1, c2, c3, c4, eI, nI, hS, hV, eW, nW, hP, hD]) fun _ => ?_ | refine ZL tm fn_specs_ok rfl (by conv => lhs; simp [c1, c2, c3, c4, eI, nI, hS, hV, eW, nW, hP, hD]) fun _ => ?_)
              simp only [eI, nI, hS, hV, eW, nW, hP, hD, Bool.true_or, Bool.false_or, Bool.or_true, Bool.or_false, Bool.true_and, Bool.false_and, Bool.and_true, Bool.and_false, Bool.not_true, Bool.not_false]
              first | exact Ret.dataR rfl (by conv => lhs; simp) (by conv => lhs; simp) (by first | rfl | simp [inlT, inlV]) | fail "no return here"
            | true =>
              repeat (first | refine ZS ?_ | refine ZK tm fn_specs_ok rfl (by conv => lhs; simp [c1, c2, c3, c4, eI, nI, hS, hV, eW, nW, hP, hD]) fun _ => ?_ | refine ZL tm fn_specs_ok rfl (by conv => lhs; simp [c1, c2, c3, c4, eI, nI, hS, hV, eW, nW, hP, hD]) fun _ => ?_)
              simp only [eI, nI, hS, hV, eW, nW, hP, hD, Bool.true_or, Bool.false_or, Bool.or_true, Bool.or_false, Bool.true_and, Bool.false_and, Bool.and_true, Bool.and_false, Bool.not_true, Bool.not_false]
              first | exact Ret.dataR rfl (by conv => lhs; simp) (by conv => lhs; simp) (by first | rfl | simp [inlT, inlV]) | fail "no return here"
          | true =>
            cases hD : a5 with
            | false =>
              repeat (first | refine ZS ?_ | refine ZK tm fn_specs_ok rfl (by conv => lhs; simp [c1, c2, c3, c4, eI, nI, hS, hV, eW, nW, hP, hD]) fun _ => ?_ | refine ZL tm fn_specs_ok rfl (by conv => lhs; simp [c1, c2, c3, c4, eI, nI, hS, hV, eW, nW, hP, hD]) fun _ => ?_)
              simp only [eI, nI, hS, hV, eW, nW, hP, hD, Bool.true_or, Bool.false_or, Bool.or_true, Bool.or_false, Bool.true_and, Bool.false_and, Bool.and_true, Bool.and_false, Bool.not_true, Bool.not_false]
              first | exact Ret.dataR rfl (by conv => lhs; simp) (by conv => lhs; simp) (by first | rfl | simp [inlT, inlV]) | fail "no return here"
            | true =>
              repeat (first | refine ZS ?_ | refine ZK tm fn_specs_ok rfl (by conv => lhs; simp [c1, c2, c3, c4, eI, nI, hS, hV, eW, nW, hP, hD]) fun _ => ?_ | refine ZL tm fn_specs_ok rfl (by conv => lhs; simp [c1, c2, c3, c4, eI, nI, hS, hV, eW, nW, hP, hD]) fun _ => ?_)
              simp only [eI, nI, hS, hV, eW, nW, hP, hD, Bool.true_or, Bool.false_or, Bool.or_true, Bool.or_false, Bool.true_and, Bool.false_and, Bool.and_true, Bool.and_false, Bool.not_true, Bool.not_false]
              first | exact Ret.dataR rfl (by conv => lhs; simp) (by conv => lhs; simp) (by first | rfl | simp [inlT, inlV]) | fail "no return here"
        · have eW : (a3 == 0) = false := by simp [hW]
          have nW : (a3 != 0) = true := by simp [hW]
          repeat (first | refine ZS ?_ | refine ZK tm fn_specs_ok rfl (by conv => lhs; simp [c1, c2, c3, c4, eI, nI, hS, hV, eW, nW]) fun _ => ?_ | refine ZL tm fn_specs_ok rfl (by conv => lhs; simp [c1, c2, c3, c4, eI, nI, hS, hV, eW, nW]) fun _ => ?_)
          simp only [eI, nI, hS, hV, eW, nW, Bool.true_or, Bool.false_or, Bool.or_true, Bool.or_false, Bool.true_and, Bool.false_and, Bool.and_true, Bool.and_false, Bool.not_true, Bool.not_false]
          first | exact Ret.dataR rfl (by conv => lhs; simp) (by conv => lhs; simp) (by first | rfl | simp [inlT, inlV]) | fail "no return here"
      | true =>
        by_cases hG : a3 ≤ a2
        · have eG : decide (a3 ≤ a2) = true := by simp [hG]
          repeat (first | refine ZS ?_ | refine ZK tm fn_specs_ok rfl (by conv => lhs; simp [c1, c2, c3, c4, eI, nI, hS, hV, eG, hG]) fun _ => ?_ | refine ZL tm fn_specs_ok rfl (by conv => lhs; simp [c1, c2, c3, c4, eI, nI, hS, hV, eG, hG]) fun _ => ?_)
          simp only [eI, nI, hS, hV, eG, Bool.true_or, Bool.false_or, Bool.or_true, Bool.or_false, Bool.true_and, Bool.false_and, Bool.and_true, Bool.and_false, Bool.not_true, Bool.not_false]
          first | exact Ret.dataR rfl (by conv => lhs; simp) (by conv => lhs; simp) (by first | rfl | simp [inlT, inlV]) | fail "no return here"
        · have eG : decide (a3 ≤ a2) = false := by simp [hG]
          cases hP : a4 with
          | false =>
            cases hD : a5 with
            | false =>
              repeat (first | refine ZS ?_ | refine ZK tm fn_specs_ok rfl (by conv => lhs; simp [c1, c2, c3, c4, eI, nI, hS, hV, eG, hG, hP, hD]) fun _ => ?_ | refine ZL tm fn_specs_ok rfl (by conv => lhs; simp [c1, c2, c3, c4, eI, nI, hS, hV, eG, hG, hP, hD]) fun _ => ?_)
              simp only [eI, nI, hS, hV, eG, hP, hD, Bool.true_or, Bool.false_or, Bool.or_true, Bool.or_false, Bool.true_and, Bool.false_and, Bool.and_true, Bool.and_false, Bool.not_true, Bool.not_false]
              first | exact Ret.dataR rfl (by conv => lhs; simp) (by conv => lhs; simp) (by first | rfl | simp [inlT, inlV]) | fail "no return here"
            | true =>
              repeat (first | refine ZS ?_ | refine ZK tm fn_specs_ok rfl (by conv => lhs; simp [c1, c2, c3, c4, eI, nI, hS, hV, eG, hG, hP, hD]) fun _ => ?_ | refine ZL tm fn_specs_ok rfl (by conv => lhs; simp [c1, c2, c3, c4, eI, nI, hS, hV, eG, hG, hP, hD]) fun _ => ?_)
              simp only [eI, nI, hS, hV, eG, hP, hD, Bool.true_or, Bool.false_or, Bool.or_true, Bool.or_false, Bool.true_and, Bool.false_and, Bool.and_true, Bool.and_false, Bool.not_true, Bool.not_false]
              first | exact Ret.dataR rfl (by conv => lhs; simp) (by conv => lhs; simp) (by first | rfl | simp [inlT, inlV]) | fail "no return here"
          | true =>
            cases hD : a5 with
            | false =>
              repeat (first | refine ZS ?_ | refine ZK tm fn_specs_ok rfl (by conv => lhs; simp [c1, c2, c3, c4, eI, nI, hS, hV, eG, hG, hP, hD]) fun _ => ?_ | refine ZL tm fn_specs_ok rfl (by conv => lhs; simp [c1, c2, c3, c4, eI, nI, hS, hV, eG, hG, hP, hD]) fun _ => ?_)
              simp only [eI, nI, hS, hV, eG, hP, hD, Bool.true_or, Bool.false_or, Bool.or_true, Bool.or_false, Bool.true_and, Bool.false_and, Bool.and_true, Bool.and_false, Bool.not_true, Bool.not_false]
              first | exact Ret.dataR rfl (by conv => lhs; simp) (by conv => lhs; simp) (by first | rfl | simp [inlT, inlV]) | fail "no return here"
            | true =>
              repeat (first | refine ZS ?_ | refine ZK tm fn_specs_ok rfl (by conv => lhs; simp [c1, c2, c3, c4, eI, nI, hS, hV, eG, hG, hP, hD]) fun _ => ?_ | refine ZL tm fn_specs_ok rfl (by conv => lhs; simp [c1, c2, c3, c4, eI, nI, hS, hV, eG, hG, hP, hD]) fun _ => ?_)
              simp only [eI, nI, hS, hV, eG, hP, hD, Bool.true_or, Bool.false_or, Bool.or_true, Bool.or_false, Bool.true_and, Bool.false_and, Bool.and_true, Bool.and_false, Bool.not_true, Bool.not_false]
              first | exact Ret.dataR rfl (by conv => lhs; simp) (by conv => lhs; simp) (by first | rfl | simp [inlT, inlV]) | fail "no return here"
theorem okM_0 : okM 0 = false := by decide
theorem fineI_eq (t : Tok) : fineI t = fineR t := by
  obtain ⟨a1, a2, o, a3, a4, a5⟩ := t
  simp only [fineI, fineR]
  generalize zO? o = z
  generalize oid o = oi
  have e1 : decide (a3 ≤ a2) = !decide (a2 < a3) := by
    by_cases h : a2 < a3 <;> simp [h] <;> omega
  have e2 : okM a2 = true → (a2 == 0) = false := fun h => by
    by_cases h0 : a2 = 0
    · subst h0; rw [okM_0] at h; cases h
    · simp [h0]
  have e3 : okM a3 = true → (a3 == 0) = false := fun h => by
    by_cases h0 : a3 = 0
    · subst h0; rw [okM_0] at h; cases h
    · simp [h0]
  rw [e1]
  simp only [bne]
  generalize decide (a2 < a3) = g
  generalize okM a2 = s at *
  generalize okM a3 = w at *
  generalize (a2 == 0) = m at *
  generalize (a3 == 0) = v at *
  generalize (a1 == 0) = i at *
  generalize (oi == a1) = e at *
  revert e2 e3
  clear e1
  revert z g s w m v i e a4 a5
  decide
end Go.Abs.Na
