/- Whether an entry is valid. Conditions: none. -/
import Derived.Test.YtlakgienobmpbaaGreatNz4
import Derived.Test.YtlakgienobmpbaaGreatAb9
namespace Go.Abs.Nz
open Go Go.Proofs Go.Abs
set_option maxRecDepth 100000
set_option maxHeartbeats 4000000
set_option linter.unusedSimpArgs false
set_option linter.unusedVariables false
attribute [local simp] instA
def ixE (n : Int) : Nat → List Int → Int
  | _, [] => -1
  | k, x :: r => if n = x then (k : Int) else ixE n (k + 1) r
theorem ixE_drop {n : Int} {l : List Int} {k : Nat} {x : Int} (h : l[k]? = some x) : ixE n k (l.drop k) = if n = x then (k : Int) else ixE n (k + 1) (l.drop (k + 1)) := by
  obtain ⟨hk, rfl⟩ := List.getElem?_eq_some_iff.1 h
  rw [List.drop_eq_getElem_cons hk, ixE]
theorem ixE_mem {n : Int} : ∀ {k : Nat} {l : List Int}, decide (0 ≤ ixE n k l) = decide (n ∈ l)
  | k, [] => by simp [ixE]
  | k, x :: r => by
    rw [ixE]
    by_cases h : n = x
    · simp [h]
    · rw [if_neg h, ixE_mem (k := k + 1) (l := r)]
      simp [h]
noncomputable def ixeS : SpecFn := mkS (fun d : {l : List Int // l.length ≤ 9100} × Int => [.list 1 (d.1.1.map iC), .int .i64 d.2]) fun d => (.int .i64 (ixE d.2 0 d.1.1), [])
theorem ixeS_eq (l : List Int) (n : Int) (h : l.length ≤ 9100) : ixeS [.list 1 (l.map iC), .int .i64 n] [] = some (.int .i64 (ixE n 0 l), []) :=
  mkS_eq (enc := fun d : {l : List Int // l.length ≤ 9100} × Int => [AV.list 1 (d.1.1.map iC), .int .i64 d.2]) (res := fun d => (.int .i64 (ixE d.2 0 d.1.1), [])) (fun x y h => by
    simp only [List.cons.injEq, AV.list.injEq, AV.int.injEq, true_and, and_true] at h
    rw [iC_inj h.1, h.2]) (⟨l, h⟩, n)
theorem ixe_ok : FnC Tryz.prog 113 ixeS := by
  refine FnC.walk 113 (fn := Tryz.f113) Tryz.func113 rfl (by kernel_rfl) fun x => ?_
  obtain ⟨⟨l, hl⟩, n⟩ := x
  change W _ (Ret _ _ (.int .i64 (ixE n 0 l)) []) _ _ ⟨19, [(0, .list 1 (l.map iC)), (1, .int .i64 n)], []⟩
  have cap : l.length ≤ 9223372036854775807 := by omega
  repeat' (first | refine ZV ?_ | refine ZB tm no_specs ?_ | refine ZH (fun hb => ?_) (fun hb => ?_) | refine ZJ (by conv => lhs; simp [cap]) ?_ | refine ZA (fun hb => ?_) (fun hb => ?_))
  refine W.loop rfl (ι := { q : Nat × NL ABlk // q.1 ≤ l.length ∧ ixE n 0 l = ixE n q.1 (l.drop q.1) })
    (fun q => ⟨19, [(0, .list 1 (l.map iC)), (1, .int .i64 n), (7, .int .i64 l.length), (8, .int .i64 (q.1.1 : Nat))], q.1.2⟩) (fun q => l.length - q.1.1)
    ⟨(0, []), by simp, rfl⟩ (AS.le_of rfl ⟨rfl, rfl, rfl, rfl, trivial⟩ (fun _ => rfl)) ?_
  rintro ⟨⟨k, h⟩, hk, hf⟩
  dsimp only at hk hf ⊢
  by_cases hk2 : k = l.length
  · subst hk2
    rw [List.drop_length] at hf
    rw [hf]
    repeat' (first | refine ZV ?_ | refine ZB tm no_specs ?_ | refine ZH (fun hb => ?_) (fun hb => ?_) | refine ZJ (by conv => lhs; simp) ?_ | refine ZA (fun hb => ?_) (fun hb => ?_))
    all_goals (first | refine Ret.dataE rfl (by conv => lhs; simp) (by conv => lhs; simp) (by first | rfl | simp [inlT, inlV]) ?_ | refine RetNf.dataE rfl (by conv => lhs; simp) (by conv => lhs; simp) (by first | rfl | simp [inlT, inlV]) ?_)
    all_goals (first | rfl | (simp [ixE]; done) | (simp_all [ixE]; done) | (simp_all [ixE]; omega))
  · have hlt : k < l.length := by omega
    obtain ⟨m, hr⟩ := get_lt hlt
    have hm : (l.map iC)[k]? = some [.int .i64 m] := by rw [List.getElem?_map, hr]; rfl
    have q1 : (k : Int) < l.length := by omega
    have q2 : ¬ l.length ≤ k := by omega
    have hw : IntKind.i64.wrap ((k : Int) + 1) = ((k + 1 : Nat) : Int) := w64 (by omega) (by omega)
    rw [ixE_drop hr] at hf
    clear hlt hk2
    by_cases ho : n = m
    · rw [if_pos ho] at hf
      rw [hf]
      have ho2 : (n == m) = true := by simp [ho]
      clear ho
      repeat' (first | refine ZV ?_ | refine ZB tm no_specs ?_ | refine ZH (fun hb => ?_) (fun hb => ?_) | refine ZJ (by conv => lhs; simp [q1, q2, hm, ho2]) ?_ | refine ZA (fun hb => ?_) (fun hb => ?_))
      all_goals (first | refine Ret.dataE rfl (by conv => lhs; simp) (by conv => lhs; simp) (by first | rfl | simp [inlT, inlV]) ?_ | refine RetNf.dataE rfl (by conv => lhs; simp) (by conv => lhs; simp) (by first | rfl | simp [inlT, inlV]) ?_)
      all_goals (first | rfl | (simp; done) | (simp_all; done) | (simp_all; omega))
    · rw [if_neg ho] at hf
      have ho2 : (n == m) = false := by simp [ho]
      clear ho
      repeat' (first | refine ZV ?_ | refine ZB tm no_specs ?_ | refine ZH (fun hb => ?_) (fun hb => ?_) | refine ZJ (by conv => lhs; simp [q1, q2, hm, hw, ho2]) ?_ | refine ZA (fun hb => ?_) (fun hb => ?_))
      exact ⟨⟨(k + 1, _), by dsimp only; omega, hf⟩, by dsimp only; omega, AS.le_of rfl ⟨rfl, rfl, rfl, rfl, trivial⟩ (fun _ => rfl)⟩
noncomputable def conS : SpecFn := mkS (fun d : {l : List Int // l.length ≤ 9100} × Int => [.list 1 (d.1.1.map iC), .int .i64 d.2]) fun d => (.bool (decide (d.2 ∈ d.1.1)), [])
theorem conS_eq (l : List Int) (n : Int) (h : l.length ≤ 9100) : conS [.list 1 (l.map iC), .int .i64 n] [] = some (.bool (decide (n ∈ l)), []) :=
  mkS_eq (enc := fun d : {l : List Int // l.length ≤ 9100} × Int => [AV.list 1 (d.1.1.map iC), .int .i64 d.2]) (res := fun d => (.bool (decide (d.2 ∈ d.1.1)), [])) (fun x y h => by
    simp only [List.cons.injEq, AV.list.injEq, AV.int.injEq, true_and, and_true] at h
    rw [iC_inj h.1, h.2]) (⟨l, h⟩, n)
noncomputable def con_specs : NL Spec := [(113, ⟨0, ixeS⟩)]
theorem con_specs_ok : ∀ p ∈ con_specs, FnC Tryz.prog p.1 p.2.fn := by
  simp only [con_specs, List.mem_cons, List.not_mem_nil, or_false]
  rintro p rfl
  exact ixe_ok
attribute [local simp] con_specs
theorem con_ok : FnC Tryz.prog 65 conS := by
  refine FnC.walk 65 (fn := Tryz.f65) Tryz.func65 rfl (by kernel_rfl) fun x => ?_
  obtain ⟨⟨l, hl⟩, n⟩ := x
  have cf := ixeS_eq l n hl
  change W _ (Ret _ _ (.bool (decide (n ∈ l))) []) _ _ ⟨9, [(0, .list 1 (l.map iC)), (1, .int .i64 n)], []⟩
  rw [← ixE_mem (k := 0)]
  repeat' (first | refine ZV ?_ | refine ZB tm con_specs_ok ?_ | refine ZH (fun hb => ?_) (fun hb => ?_) | refine ZJ (by conv => lhs; simp [cf]) ?_ | refine ZA (fun hb => ?_) (fun hb => ?_))
  all_goals (first | refine Ret.dataE rfl (by conv => lhs; simp) (by conv => lhs; simp) (by first | rfl | simp [inlT, inlV]) ?_ | refine RetNf.dataE rfl (by conv => lhs; simp) (by conv => lhs; simp) (by first | rfl | simp [inlT, inlV]) ?_)
  all_goals (first | rfl | (simp; done) | (simp_all; done) | (simp_all; omega))
def ixaF (p : (Int × Int) → Bool) : Nat → List (Int × Int) → Int
  | _, [] => -1
  | k, x :: r => if p x then (k : Int) else ixaF p (k + 1) r
theorem ixaF_drop {p : (Int × Int) → Bool} {l : List (Int × Int)} {k : Nat} {x : (Int × Int)} (h : l[k]? = some x) : ixaF p k (l.drop k) = if p x then (k : Int) else ixaF p (k + 1) (l.drop (k + 1)) := by
  obtain ⟨hk, rfl⟩ := List.getElem?_eq_some_iff.1 h
  rw [List.drop_eq_getElem_cons hk, ixaF]
theorem ixaF_end {p : (Int × Int) → Bool} {l : List (Int × Int)} : ixaF p l.length (l.drop l.length) = -1 := by rw [List.drop_length]; rfl
theorem ixaF_any {p : (Int × Int) → Bool} : ∀ {k : Nat} {l : List (Int × Int)}, decide (0 ≤ ixaF p k l) = l.any p
  | k, [] => by simp [ixaF]
  | k, x :: r => by
    rw [ixaF, List.any_cons]
    cases hp : p x
    · simpa using ixaF_any (p := p) (k := k + 1) (l := r)
    · simp
structure ixaV where
  F : FuncId
  p : (Int × Int) → Bool
  S : SpecFn
  ok : FnC Tryz.prog F S
  eq : ∀ x, S [.agg (askC x)] [] = some (.bool (p x), [])
structure ixaW where
  F : FuncId
  ne : (F = 114) = False
  ne2 : (114 = F) = False
  p : (Int × Int) → Bool
  E : Nat
  s : Nat
  row : List AV
  refs : refsL row = []
  ren : ∀ f, renL f row = row
  S : SpecFn
  ok : FnC Tryz.prog F S
  eq : ∀ x, S [.agg (askC x), .ptr 0 0 0 0] [{ gen := 0, kind := 2, elem := E, size := s, inl := false, rows := [row] }] = some (.bool (p x), [{ gen := 0, kind := 2, elem := E, size := s, inl := false, rows := [row] }])
def ixaW.b (v : ixaW) : ABlk := { gen := 0, kind := 2, elem := v.E, size := v.s, inl := false, rows := [v.row] }
def ixaB (l : List (Int × Int)) : ABlk := { gen := 0, kind := 2, elem := 119, size := 2, inl := true, rows := l.map askC }
theorem ixaC_inj {l m : List (Int × Int)} (h : l.map askC = m.map askC) : l = m := map_inj' (fun a b h => (by obtain ⟨a1, a2⟩ := a; simpa [askC, Prod.ext_iff] using h)) h
noncomputable def ixa0 (v : ixaV) : SpecFn := mkS2 (fun l : {l : List (Int × Int) // l.length ≤ 9100} => ([.list 2 (l.1.map askC), .fn (.func v.F) [] []], [])) fun l => (.int .i64 (ixaF v.p 0 l.1), [])
theorem ixa0_eq (v : ixaV) (l : List (Int × Int)) (h : l.length ≤ 9100) : ixa0 v [.list 2 (l.map askC), .fn (.func v.F) [] []] [] = some (.int .i64 (ixaF v.p 0 l), []) :=
  mkS2_eq (enc := fun l : {l : List (Int × Int) // l.length ≤ 9100} => ([AV.list 2 (l.1.map askC), .fn (.func v.F) [] []], ([] : List ABlk))) (res := fun l => (AV.int .i64 (ixaF v.p 0 l.1), [])) (fun x y h => by
    simp only [Prod.mk.injEq, List.cons.injEq, AV.list.injEq, true_and, and_true] at h
    rw [ixaC_inj h]) ⟨l, h⟩
noncomputable def ixa2 (v : ixaW) : SpecFn := mkS2 (fun l : {l : List (Int × Int) // l.length ≤ 9100} => ([.sl 0 0 0 l.1.length, .fn (.func v.F) [] [.ptr 1 0 0 0]], [ixaB l.1, v.b])) fun l => (.int .i64 (ixaF v.p 0 l.1), [ixaB l.1, v.b])
theorem ixa2_eq (v : ixaW) (l : List (Int × Int)) (h : l.length ≤ 9100) : ixa2 v [.sl 0 0 0 l.length, .fn (.func v.F) [] [.ptr 1 0 0 0]] [ixaB l, v.b] = some (.int .i64 (ixaF v.p 0 l), [ixaB l, v.b]) :=
  mkS2_eq (enc := fun l : {l : List (Int × Int) // l.length ≤ 9100} => ([AV.sl 0 0 0 l.1.length, .fn (.func v.F) [] [.ptr 1 0 0 0]], [ixaB l.1, v.b])) (res := fun l => (AV.int .i64 (ixaF v.p 0 l.1), [ixaB l.1, v.b])) (fun x y h => by
    simp only [ixaB, Prod.mk.injEq, List.cons.injEq, ABlk.mk.injEq, true_and, and_true] at h
    rw [ixaC_inj h.2]) ⟨l, h⟩
theorem ixa0_ok (v : ixaV) : FnC Tryz.prog 114 (ixa0 v) := by
  obtain ⟨G, p, S, ok, eq⟩ := v
  have sp : ∀ q ∈ ([(G, ⟨3, S⟩)] : NL Spec), FnC Tryz.prog q.1 q.2.fn := by
    simp only [List.mem_cons, List.not_mem_nil, or_false]
    rintro q rfl
    exact ok
  refine FnC.walkB 114 (fn := Tryz.f114) Tryz.func114 rfl (by kernel_rfl) (fun x b hb => by simp at hb) fun x => ?_
  obtain ⟨l, hl⟩ := x
  change W _ (RetB _ _ 0 (.int .i64 (ixaF p 0 l)) []) _ _ ⟨19, [(0, .list 2 (l.map askC)), (1, .fn (.func G) [] [])], []⟩
  have cap : l.length ≤ 9223372036854775807 := by omega
  repeat' (first | refine ZV ?_ | refine ZB tm sp ?_ | refine ZH (fun hb => ?_) (fun hb => ?_) | refine ZJ (by conv => lhs; simp [cap]) ?_ | refine ZA (fun hb => ?_) (fun hb => ?_))
  refine W.loop rfl (ι := { q : Nat × NL ABlk // q.1 ≤ l.length ∧ ixaF p 0 l = ixaF p q.1 (l.drop q.1) })
    (fun q => ⟨19, [(0, .list 2 (l.map askC)), (1, .fn (.func G) [] []), (7, .int .i64 l.length), (8, .int .i64 (q.1.1 : Nat))], q.1.2⟩) (fun q => l.length - q.1.1)
    ⟨(0, []), by simp, rfl⟩ (AS.le_of rfl ⟨rfl, rfl, rfl, rfl, trivial⟩ (fun _ => rfl)) ?_
  rintro ⟨⟨k, h⟩, hk, hf⟩
  dsimp only at hk hf ⊢
  by_cases hk2 : k = l.length
  · subst hk2
    rw [ixaF_end] at hf
    rw [hf]
    repeat' (first | refine ZV ?_ | refine ZB tm sp ?_ | refine ZH (fun hb => ?_) (fun hb => ?_) | refine ZJ (by conv => lhs; simp) ?_ | refine ZA (fun hb => ?_) (fun hb => ?_))
    exact RetB.raw [] rfl (by conv => lhs; simp) (by decide) (by simp) (by simp) (by simp)
  · have hlt : k < l.length := by omega
    obtain ⟨m, hr⟩ := get_lt hlt
    have hm : (l.map askC)[k]? = some (askC m) := by rw [List.getElem?_map, hr]; rfl
    have q1 : (k : Int) < l.length := by omega
    have q2 : ¬ l.length ≤ k := by omega
    have hw : IntKind.i64.wrap ((k : Int) + 1) = ((k + 1 : Nat) : Int) := w64 (by omega) (by omega)
    rw [ixaF_drop hr] at hf
    have cf := eq m
    clear hlt hk2
    simp only [askC] at cf hm
    cases ho : p m with
    | true =>
      rw [if_pos ho] at hf
      rw [hf]
      rw [ho] at cf
      repeat' (first | refine ZV ?_ | refine ZB tm sp ?_ | refine ZH (fun hb => ?_) (fun hb => ?_) | refine ZJ (by conv => lhs; simp [q1, q2, hm, cf, askC]) ?_ | refine ZA (fun hb => ?_) (fun hb => ?_))
      exact RetB.raw [] rfl (by conv => lhs; simp) (by decide) (by simp) (by simp) (by simp)
    | false =>
      rw [if_neg (by simp [ho])] at hf
      rw [ho] at cf
      repeat' (first | refine ZV ?_ | refine ZB tm sp ?_ | refine ZH (fun hb => ?_) (fun hb => ?_) | refine ZJ (by conv => lhs; simp [q1, q2, hm, cf, hw, askC]) ?_ | refine ZA (fun hb => ?_) (fun hb => ?_))
      exact ⟨⟨(k + 1, _), by dsimp only; omega, hf⟩, by dsimp only; omega, AS.le_of rfl ⟨rfl, rfl, rfl, rfl, trivial⟩ (fun _ => rfl)⟩
theorem ixa2_ok (v : ixaW) : FnC Tryz.prog 114 (ixa2 v) := by
  obtain ⟨G, ne, ne2, p, E, s, row, rf, rn, S, ok, eq⟩ := v
  have sp : ∀ q ∈ ([(G, ⟨3, S⟩)] : NL Spec), FnC Tryz.prog q.1 q.2.fn := by
    simp only [List.mem_cons, List.not_mem_nil, or_false]
    rintro q rfl
    exact ok
  refine FnC.walkB 114 (fn := Tryz.f114) Tryz.func114 rfl (by kernel_rfl) (fun x b hb => by simp at hb; rcases hb with rfl | rfl <;> rfl) fun x => ?_
  obtain ⟨l, hl⟩ := x
  change W _ (RetB _ _ 2 (.int .i64 (ixaF p 0 l)) [ixaB l, { gen := 0, kind := 2, elem := E, size := s, inl := false, rows := [row] }]) _ _ ⟨19, [(0, .sl 0 0 0 l.length), (1, .fn (.func G) [] [.ptr 1 0 0 0])], [(0, ixaB l), (1, { gen := 0, kind := 2, elem := E, size := s, inl := false, rows := [row] })]⟩
  have cap : l.length ≤ 9223372036854775807 := by omega
  repeat' (first | refine ZV ?_ | refine ZB tm sp ?_ | refine ZH (fun hb => ?_) (fun hb => ?_) | refine ZJ (by conv => lhs; simp [cap, ixaB]) ?_ | refine ZA (fun hb => ?_) (fun hb => ?_))
  refine W.loop rfl (ι := { q : Nat × NL ABlk // q.1 ≤ l.length ∧ ixaF p 0 l = ixaF p q.1 (l.drop q.1) ∧ lk q.2 0 = some (ixaB l) ∧ lk q.2 1 = some { gen := 0, kind := 2, elem := E, size := s, inl := false, rows := [row] } })
    (fun q => ⟨19, [(0, .sl 0 0 0 l.length), (1, .fn (.func G) [] [.ptr 1 0 0 0]), (7, .int .i64 l.length), (8, .int .i64 (q.1.1 : Nat))], q.1.2⟩) (fun q => l.length - q.1.1)
    ⟨(0, _), by simp, rfl, rfl, rfl⟩ (AS.le_of rfl ⟨rfl, rfl, rfl, rfl, trivial⟩ (fun _ => rfl)) ?_
  rintro ⟨⟨k, h⟩, hk, hf, h0, h1⟩
  dsimp only at hk hf h0 h1 ⊢
  by_cases hk2 : k = l.length
  · subst hk2
    rw [ixaF_end] at hf
    rw [hf]
    repeat' (first | refine ZV ?_ | refine ZB tm sp ?_ | refine ZH (fun hb => ?_) (fun hb => ?_) | refine ZJ (by conv => lhs; simp) ?_ | refine ZA (fun hb => ?_) (fun hb => ?_))
    exact RetB.raw [0, 1] rfl (by conv => lhs; simp) (by decide) (by intro i hi; rcases (show i = 0 ∨ i = 1 by omega) with rfl | rfl <;> simp [h0, h1, ixaB]) (by simp [h0, h1, rn, ixaB]) (by simp)
  · have hlt : k < l.length := by omega
    obtain ⟨m, hr⟩ := get_lt hlt
    have hm : (l.map askC)[k]? = some (askC m) := by rw [List.getElem?_map, hr]; rfl
    have q1 : (k : Int) < l.length := by omega
    have q2 : ¬ l.length ≤ k := by omega
    have hw : IntKind.i64.wrap ((k : Int) + 1) = ((k + 1 : Nat) : Int) := w64 (by omega) (by omega)
    rw [ixaF_drop hr] at hf
    have cf := eq m
    clear hlt hk2
    simp only [askC] at cf hm
    have h0' := h0
    unfold ixaB at h0
    cases ho : p m with
    | true =>
      rw [if_pos ho] at hf
      rw [hf]
      rw [ho] at cf
      repeat' (first | refine ZV ?_ | refine ZB tm sp ?_ | refine ZH (fun hb => ?_) (fun hb => ?_) | refine ZJ (by conv => lhs; simp [q1, q2, hm, cf, h0, h1, rf, rn, askC]) ?_ | refine ZA (fun hb => ?_) (fun hb => ?_))
      exact RetB.raw [0, 1] rfl (by conv => lhs; simp) (by decide) (by intro i hi; rcases (show i = 0 ∨ i = 1 by omega) with rfl | rfl <;> simp [h0, lk_st]) (by simp [h0, rn, lk_st, ixaB]) (by simp)
    | false =>
      rw [if_neg (by simp [ho])] at hf
      rw [ho] at cf
      repeat' (first | refine ZV ?_ | refine ZB tm sp ?_ | refine ZH (fun hb => ?_) (fun hb => ?_) | refine ZJ (by conv => lhs; simp [q1, q2, hm, cf, hw, h0, h1, rf, rn, askC]) ?_ | refine ZA (fun hb => ?_) (fun hb => ?_))
      exact ⟨⟨(k + 1, _), by dsimp only; omega, hf, by simp [lk_st, h0'], by simp [lk_st]⟩, by dsimp only; omega, AS.le_of rfl ⟨rfl, rfl, rfl, rfl, trivial⟩ (fun _ => rfl)⟩
noncomputable def ixac0 (v : ixaV) : SpecFn := mkS2 (fun l : {l : List (Int × Int) // l.length ≤ 9100} => ([.list 2 (l.1.map askC), .fn (.func v.F) [] []], [])) fun l => (.bool (l.1.any v.p), [])
theorem ixac0_eq (v : ixaV) (l : List (Int × Int)) (h : l.length ≤ 9100) : ixac0 v [.list 2 (l.map askC), .fn (.func v.F) [] []] [] = some (.bool (l.any v.p), []) :=
  mkS2_eq (enc := fun l : {l : List (Int × Int) // l.length ≤ 9100} => ([AV.list 2 (l.1.map askC), .fn (.func v.F) [] []], ([] : List ABlk))) (res := fun l => (AV.bool (l.1.any v.p), [])) (fun x y h => by
    simp only [Prod.mk.injEq, List.cons.injEq, AV.list.injEq, true_and, and_true] at h
    rw [ixaC_inj h]) ⟨l, h⟩
theorem ixac0_ok (v : ixaV) : FnC Tryz.prog 66 (ixac0 v) := by
  have sp : ∀ q ∈ ([(114, ⟨3, ixa0 v⟩)] : NL Spec), FnC Tryz.prog q.1 q.2.fn := by
    simp only [List.mem_cons, List.not_mem_nil, or_false]
    rintro q rfl
    exact ixa0_ok v
  refine FnC.walkB 66 (fn := Tryz.f66) Tryz.func66 rfl (by kernel_rfl) (fun x b hb => by simp at hb) fun x => ?_
  obtain ⟨l, hl⟩ := x
  have cf := ixa0_eq v l hl
  obtain ⟨G, p, S, ok, eq⟩ := v
  change W _ (RetB _ _ 0 (.bool (l.any p)) []) _ _ ⟨9, [(0, .list 2 (l.map askC)), (1, .fn (.func G) [] [])], []⟩
  repeat' (first | refine ZV ?_ | refine ZB tm sp ?_ | refine ZH (fun hb => ?_) (fun hb => ?_) | refine ZJ (by conv => lhs; simp [cf]) ?_ | refine ZA (fun hb => ?_) (fun hb => ?_))
  exact RetB.raw [] rfl (by conv => lhs; simp) (by decide) (by simp) (by simp) (by simp [ixaF_any])
noncomputable def ixac2 (v : ixaW) : SpecFn := mkS2 (fun l : {l : List (Int × Int) // l.length ≤ 9100} => ([.sl 0 0 0 l.1.length, .fn (.func v.F) [] [.ptr 1 0 0 0]], [ixaB l.1, v.b])) fun l => (.bool (l.1.any v.p), [ixaB l.1, v.b])
theorem ixac2_eq (v : ixaW) (l : List (Int × Int)) (h : l.length ≤ 9100) : ixac2 v [.sl 0 0 0 l.length, .fn (.func v.F) [] [.ptr 1 0 0 0]] [ixaB l, v.b] = some (.bool (l.any v.p), [ixaB l, v.b]) :=
  mkS2_eq (enc := fun l : {l : List (Int × Int) // l.length ≤ 9100} => ([AV.sl 0 0 0 l.1.length, .fn (.func v.F) [] [.ptr 1 0 0 0]], [ixaB l.1, v.b])) (res := fun l => (AV.bool (l.1.any v.p), [ixaB l.1, v.b])) (fun x y h => by
    simp only [ixaB, Prod.mk.injEq, List.cons.injEq, ABlk.mk.injEq, true_and, and_true] at h
    rw [ixaC_inj h.2]) ⟨l, h⟩
theorem ixac2_ok (v : ixaW) : FnC Tryz.prog 66 (ixac2 v) := by
  have sp : ∀ q ∈ ([(114, ⟨3, ixa2 v⟩)] : NL Spec), FnC Tryz.prog q.1 q.2.fn := by
    simp only [List.mem_cons, List.not_mem_nil, or_false]
    rintro q rfl
    exact ixa2_ok v
  refine FnC.walkB 66 (fn := Tryz.f66) Tryz.func66 rfl (by kernel_rfl) (fun x b hb => by simp at hb; rcases hb with rfl | rfl <;> rfl) fun x => ?_
  obtain ⟨l, hl⟩ := x
  have cf := ixa2_eq v l hl
  obtain ⟨G, ne, ne2, p, E, s, row, rf, rn, S, ok, eq⟩ := v
  simp only [ixaW.b, ixaB] at cf
  change W _ (RetB _ _ 2 (.bool (l.any p)) [{ gen := 0, kind := 2, elem := 119, size := 2, inl := true, rows := l.map askC }, { gen := 0, kind := 2, elem := E, size := s, inl := false, rows := [row] }]) _ _ ⟨9, [(0, .sl 0 0 0 l.length), (1, .fn (.func G) [] [.ptr 1 0 0 0])], [(0, { gen := 0, kind := 2, elem := 119, size := 2, inl := true, rows := l.map askC }), (1, { gen := 0, kind := 2, elem := E, size := s, inl := false, rows := [row] })]⟩
  repeat' (first | refine ZV ?_ | refine ZB tm sp ?_ | refine ZH (fun hb => ?_) (fun hb => ?_) | refine ZJ (by conv => lhs; simp [cf, rf, rn]) ?_ | refine ZA (fun hb => ?_) (fun hb => ?_))
  exact RetB.raw [0, 1] rfl (by conv => lhs; simp) (by decide) (by intro i hi; rcases (show i = 0 ∨ i = 1 by omega) with rfl | rfl <;> simp) (by simp [rn]) (by simp [ixaF_any])
noncomputable def ixic1 (v : ixiW) : SpecFn := mkS2 (fun l : {l : List Int // l.length ≤ 9100} => ([.list 1 (l.1.map iC), .fn (.func v.F) [] [.ptr 0 0 0 0]], [v.b])) fun l => (.bool (l.1.any v.p), [v.b])
theorem ixic1_eq (v : ixiW) (l : List Int) (h : l.length ≤ 9100) : ixic1 v [.list 1 (l.map iC), .fn (.func v.F) [] [.ptr 0 0 0 0]] [v.b] = some (.bool (l.any v.p), [v.b]) :=
  mkS2_eq (enc := fun l : {l : List Int // l.length ≤ 9100} => ([AV.list 1 (l.1.map iC), .fn (.func v.F) [] [.ptr 0 0 0 0]], [v.b])) (res := fun l => (AV.bool (l.1.any v.p), [v.b])) (fun x y h => by
    simp only [Prod.mk.injEq, List.cons.injEq, AV.list.injEq, true_and, and_true] at h
    rw [ixiC_inj h]) ⟨l, h⟩
theorem ixic1_ok (v : ixiW) : FnC Tryz.prog 128 (ixic1 v) := by
  have sp : ∀ q ∈ ([(123, ⟨3, ixi1 v⟩)] : NL Spec), FnC Tryz.prog q.1 q.2.fn := by
    simp only [List.mem_cons, List.not_mem_nil, or_false]
    rintro q rfl
    exact ixi1_ok v
  refine FnC.walkB 128 (fn := Tryz.f128) Tryz.func128 rfl (by kernel_rfl) (fun x b hb => by simp at hb; rw [hb]; rfl) fun x => ?_
  obtain ⟨l, hl⟩ := x
  have cf := ixi1_eq v l hl
  obtain ⟨G, ne, ne2, p, E, s, row, rf, rn, S, ok, eq⟩ := v
  simp only [ixiW.b] at cf
  change W _ (RetB _ _ 1 (.bool (l.any p)) [{ gen := 0, kind := 2, elem := E, size := s, inl := false, rows := [row] }]) _ _ ⟨9, [(0, .list 1 (l.map iC)), (1, .fn (.func G) [] [.ptr 0 0 0 0])], [(0, { gen := 0, kind := 2, elem := E, size := s, inl := false, rows := [row] })]⟩
  repeat' (first | refine ZV ?_ | refine ZB tm sp ?_ | refine ZH (fun hb => ?_) (fun hb => ?_) | refine ZJ (by conv => lhs; simp [cf, rf, rn]) ?_ | refine ZA (fun hb => ?_) (fun hb => ?_))
  exact RetB.raw [0] rfl (by conv => lhs; simp) (by decide) (by simp) (by simp [rn]) (by simp [ixiF_any])
end Go.Abs.Nz
namespace Go.Abs.Nz
open Go Go.Proofs Go.Abs
set_option maxRecDepth 100000
set_option maxHeartbeats 4000000
set_option linter.unusedSimpArgs false
set_option linter.unusedVariables false
attribute [local simp] instA
attribute [-simp] mkv
attribute [local simp] mkv_hd hdA_cons hdA_ob hdA_ob'
def enBlk (e : En) : ABlk := { gen := 0, kind := 2, elem := 85, size := 41, inl := false, rows := [enC e] }
theorem enC_refs (e : En) : refsL (enC e) = [] := refsL_inl (by simp [enC, AV.isInl])
theorem enC_ren (e : En) (f : Nat → Nat → Option (Nat × Nat)) : renL f (enC e) = enC e := renL_inl (by simp [enC, AV.isInl])
def strg (e : En) (n : Int) : Bool := n != e.owner && !decide (n ∈ e.readers)
noncomputable def strS (e : En) : SpecFn := mkS2 (fun n : Int => ([.int .i64 n, .ptr 0 0 0 0], [enBlk e])) fun n => (.bool (strg e n), [enBlk e])
theorem strS_eq (e : En) (n : Int) : strS e [.int .i64 n, .ptr 0 0 0 0] [enBlk e] = some (.bool (strg e n), [enBlk e]) :=
  mkS2_eq (enc := fun n : Int => ([AV.int .i64 n, .ptr 0 0 0 0], [enBlk e])) (res := fun n => (.bool (strg e n), [enBlk e])) (fun x y h => by
    simp only [Prod.mk.injEq, List.cons.injEq, AV.int.injEq, true_and, and_true] at h
    rw [h]) n
noncomputable def str_specs : NL Spec := [(65, ⟨0, conS⟩)]
theorem str_specs_ok : ∀ p ∈ str_specs, FnC Tryz.prog p.1 p.2.fn := by
  simp only [str_specs, List.mem_cons, List.not_mem_nil, or_false]
  rintro p rfl
  exact con_ok
attribute [local simp] str_specs
theorem str_ok (e : En) (he : okE e) : FnC Tryz.prog 125 (strS e) := by
  obtain ⟨id, ow, rd, o, wt, q⟩ := e
  obtain ⟨hrd, hwt, hq⟩ := he
  dsimp only at hrd hwt hq
  refine FnC.walkB 125 (fn := Tryz.f125) Tryz.func125 rfl (by kernel_rfl) (fun x b hb => by simp at hb; rw [hb]; rfl) fun n => ?_
  have cf := conS_eq rd n (by omega)
  change W _ (RetB _ _ 1 (.bool (n != ow && !decide (n ∈ rd))) [enBlk ⟨id, ow, rd, o, wt, q⟩]) _ _ ⟨15, [(0, .int .i64 n), (1, .ptr 0 0 0 0)], [(0, { gen := 0, kind := 2, elem := 85, size := 41, inl := false, rows := [.int .u64 id :: .int .i64 ow :: .list 1 (rd.map iC) :: (o.cells ++ [.list 1 (wt.map iC), .list 2 (q.map askC)])] })]⟩
  repeat' (first | refine ZV ?_ | refine ZB tm str_specs_ok ?_ | refine ZH (fun hb => ?_) (fun hb => ?_) | refine ZJ (by conv => lhs; simp [cf]) ?_ | refine ZA (fun hb => ?_) (fun hb => ?_))
  all_goals exact RetB.raw [0] rfl (by conv => lhs; simp) (by decide) (by simp) (by simp [enBlk, renL]) (by simp_all)
def oddA (p : Int × Int) : Bool := !okN p.1 || !okM p.2
noncomputable def oddS : SpecFn := mkS2 (fun p : Int × Int => ([.agg (askC p)], [])) fun p => (.bool (oddA p), [])
theorem oddS_eq (p : Int × Int) : oddS [.agg (askC p)] [] = some (.bool (oddA p), []) :=
  mkS2_eq (enc := fun p : Int × Int => ([AV.agg (askC p)], ([] : List ABlk))) (res := fun p => (.bool (oddA p), [])) (fun x y h => by
    simp only [askC, Prod.mk.injEq, List.cons.injEq, AV.agg.injEq, AV.int.injEq, true_and, and_true] at h
    rw [show x = y from Prod.ext h.1 h.2]) p
noncomputable def odd_specs : NL Spec := [(62, ⟨1, boS okN⟩), (63, ⟨1, boS okM⟩)]
theorem odd_specs_ok : ∀ p ∈ odd_specs, FnC Tryz.prog p.1 p.2.fn := by
  simp only [odd_specs, List.mem_cons, List.not_mem_nil, or_false]
  rintro p (rfl | rfl)
  · exact nod_ok
  · exact mod_ok
attribute [local simp] odd_specs
theorem odd_ok : FnC Tryz.prog 126 oddS := by
  refine FnC.walkB 126 (fn := Tryz.f126) Tryz.func126 rfl (by kernel_rfl) (fun x b hb => by simp at hb) fun p => ?_
  obtain ⟨n, m⟩ := p
  have c1 := boS_eq okN n
  have c2 := boS_eq okM m
  change W _ (RetB _ _ 0 (.bool (!okN n || !okM m)) []) _ _ ⟨13, [(0, .agg [.int .i64 n, .int .i64 m])], []⟩
  generalize okN n = b1 at *
  generalize okM m = b2 at *
  repeat' (first | refine ZV ?_ | refine ZB tm odd_specs_ok ?_ | refine ZH (fun hb => ?_) (fun hb => ?_) | refine ZJ (by conv => lhs; simp [c1, c2]) ?_ | refine ZA (fun hb => ?_) (fun hb => ?_))
  all_goals exact RetB.raw [] rfl (by conv => lhs; simp) (by decide) (by simp) (by simp) (by simp_all)
noncomputable def strV (e : En) (h : okE e) : ixiW := ⟨125, by simp, by simp, strg e, 85, 41, enC e, enC_refs e, enC_ren e, strS e, str_ok e h, strS_eq e⟩
noncomputable def oddV : ixaV := ⟨126, oddA, oddS, odd_ok, oddS_eq⟩
noncomputable def fineB (e : En) : Bool := e.id != 0 && (decide (-1 ≤ e.owner) && (decide (e.owner ≤ 127) && (ascN e.readers && (ascN e.waiting && ((e.owner == -1 || ((e.readers.length : Int) == 0 && zO? e.obj)) && ((oid e.obj == e.id || zO? e.obj) && (!e.waiting.any (strg e) && (!e.queue.any oddA && (decide ((0 : Int) < e.waiting.length) || (e.queue.length : Int) == 0)))))))))
theorem fine_ok : FnC Tryz.prog 83 (enS fineB) := by
  refine FnC.walk 83 (fn := Tryz.f83) Tryz.func83 rfl (by kernel_rfl) fun d => ?_
  obtain ⟨e, he⟩ := d
  obtain ⟨SV, hSV⟩ : ∃ S, S = ixic1 (strV e he) := ⟨_, rfl⟩
  obtain ⟨SW, hSW⟩ : ∃ S, S = ixac0 oddV := ⟨_, rfl⟩
  have sp : ∀ q ∈ ([(127, ⟨1, ilS ascN⟩), (122, ⟨1, zeS⟩), (79, ⟨1, fitS⟩), (128, ⟨3, SV⟩), (66, ⟨3, SW⟩)] : NL Spec), FnC Tryz.prog q.1 q.2.fn := by
    simp only [List.mem_cons, List.not_mem_nil, or_false]
    rintro q (rfl | rfl | rfl | rfl | rfl)
    · exact asc_ok
    · exact abs_ok
    · exact fit2_ok
    · rw [hSV]; exact ixic1_ok _
    · rw [hSW]; exact ixac0_ok _
  have c1 := ilS_eq ascN e.readers he.1
  have c2 := ilS_eq ascN e.waiting he.2.1
  have c3 := zeS_eq e.obj
  have c4 := fitS_eq e.obj e.id
  have c5 : SV [.list 1 (e.waiting.map iC), .fn (.func 125) [] [.ptr 0 0 0 0]] [{ gen := 0, kind := 2, elem := 85, size := 41, inl := false, rows := [enC e] }] = some (.bool (e.waiting.any (strg e)), [{ gen := 0, kind := 2, elem := 85, size := 41, inl := false, rows := [enC e] }]) := by rw [hSV]; exact ixic1_eq (strV e he) e.waiting (by have := he.2.1; omega)
  have c6 : SW [.list 2 (e.queue.map askC), .fn (.func 126) [] []] [] = some (.bool (e.queue.any oddA), []) := by rw [hSW]; exact ixac0_eq oddV e.queue (by have := he.2.2; omega)
  have cap1 : e.readers.length ≤ 9223372036854775807 := by have := he.1; omega
  have cap2 : e.waiting.length ≤ 9223372036854775807 := by have := he.2.1; omega
  have cap3 : e.queue.length ≤ 9223372036854775807 := by have := he.2.2; omega
  clear hSV hSW
  simp only [enC] at c5
  change W _ (Ret _ _ (.bool (e.id != 0 && (decide (-1 ≤ e.owner) && (decide (e.owner ≤ 127) && (ascN e.readers && (ascN e.waiting && ((e.owner == -1 || ((e.readers.length : Int) == 0 && zO? e.obj)) && ((oid e.obj == e.id || zO? e.obj) && (!e.waiting.any (strg e) && (!e.queue.any oddA && (decide ((0 : Int) < e.waiting.length) || (e.queue.length : Int) == 0))))))))))) []) _ _ ⟨78, [(0, .agg (.int .u64 e.id :: .int .i64 e.owner :: .list 1 (e.readers.map iC) :: (e.obj.cells ++ [.list 1 (e.waiting.map iC), .list 2 (e.queue.map askC)])))], []⟩
  generalize e.waiting.any (strg e) = b5 at *
  generalize e.queue.any oddA = b6 at *
  generalize ascN e.readers = b1 at *
  generalize ascN e.waiting = b2 at *
  generalize zO? e.obj = b3 at *
  generalize (oid e.obj == e.id || b3) = b4 at *
  clear he
  repeat' (first | refine ZV ?_ | refine ZB tm sp ?_ | refine ZH (fun hb => ?_) (fun hb => ?_) | refine ZJ (by conv => lhs; simp [c1, c2, c3, c4, c5, c6, cap1, cap2, cap3]) ?_ | refine ZA (fun hb => ?_) (fun hb => ?_))
  all_goals (first | refine Ret.dataE rfl (by conv => lhs; simp) (by conv => lhs; simp) (by first | rfl | simp [inlT, inlV]) ?_ | refine RetNf.dataE rfl (by conv => lhs; simp) (by conv => lhs; simp) (by first | rfl | simp [inlT, inlV]) ?_)
  all_goals (first | rfl | (simp; done) | (simp_all; done) | (simp_all; omega))
end Go.Abs.Nz
namespace Go.Abs.Nz
open Go Go.Proofs Go.Abs
set_option maxRecDepth 100000
set_option maxHeartbeats 4000000
set_option linter.unusedSimpArgs false
set_option linter.unusedVariables false
attribute [local simp] instA slice3A slice3C
attribute [-simp] mkv
attribute [local simp] mkv_hd hdA_cons hdA_ob hdA_ob'
noncomputable def goodD (l : List En) (j : Nat) : Bool := match l[j]? with
  | none => true
  | some t => fineB t && match j with
    | 0 => true
    | i + 1 => match l[i]? with
      | some s => decide (s.id < t.id)
      | none => true
noncomputable def validD (nd : Int) (l : List En) : Bool := (List.range l.length).all (goodD l) && okN nd
theorem validD_no {nd : Int} {l : List En} {k : Nat} (h : k < l.length) (hg : goodD l k = false) : validD nd l = false := by
  unfold validD
  have : (List.range l.length).all (goodD l) = false := by
    rw [List.all_eq_false]
    exact ⟨k, List.mem_range.2 h, by simp [hg]⟩
  rw [this, Bool.false_and]
theorem validD_yes {nd : Int} {l : List En} (h : ∀ k, k < l.length → goodD l k = true) : validD nd l = okN nd := by
  unfold validD
  have : (List.range l.length).all (goodD l) = true := by
    rw [List.all_eq_true]
    exact fun k hk => h k (List.mem_range.1 hk)
  rw [this, Bool.true_and]
noncomputable def vdS : SpecFn := mkS (fun d : Drs => [d.v]) fun d => (.bool (validD d.node d.ents), [])
theorem vdS_eq (d : Drs) : vdS [d.v] [] = some (.bool (validD d.node d.ents), []) :=
  mkS_eq (enc := fun d : Drs => [d.v]) (fun x y h => by
    simp only [List.cons.injEq, and_true] at h
    cases Drs.v_inj h
    rfl) d
noncomputable def vdp_specs : NL Spec := [(83, ⟨1, enS fineB⟩), (62, ⟨1, boS okN⟩)]
theorem vdp_specs_ok : ∀ p ∈ vdp_specs, FnC Tryz.prog p.1 p.2.fn := by
  simp only [vdp_specs, List.mem_cons, List.not_mem_nil, or_false]
  rintro p (rfl | rfl)
  · exact fine_ok
  · exact nod_ok
attribute [local simp] vdp_specs
theorem vdp_ok : FnC Tryz.prog 39 vdS := by
  refine FnC.walk 39 (fn := Tryz.f39) Tryz.func39 rfl (by kernel_rfl) fun d => ?_
  obtain ⟨nd, l, hl, he⟩ := d
  have cn := boS_eq okN nd
  change W _ (Ret _ _ (.bool (validD nd l)) []) _ _ ⟨36, [(0, .agg [.int .i64 nd, .list 41 (l.map enC)])], []⟩
  have cap : l.length ≤ 9223372036854775807 := by omega
  repeat' (first | refine ZV ?_ | refine ZB tm vdp_specs_ok ?_ | refine ZH (fun hb => ?_) (fun hb => ?_) | refine ZJ (by conv => lhs; simp [cap]) ?_ | refine ZA (fun hb => ?_) (fun hb => ?_))
  refine W.loop rfl (ι := { q : Nat × NL ABlk // q.1 ≤ l.length ∧ (∀ j, j < q.1 → goodD l j = true) ∧ lk q.2 32 = some { gen := 1, kind := 2, elem := 71, size := 2, inl := false, rows := [[.int .i64 nd, .list 41 (l.map enC)]] } })
    (fun q => ⟨36, [(1, .ptr 32 1 0 0), (6, .list 41 (l.map enC)), (7, .int .i64 l.length), (8, .int .i64 (q.1.1 : Nat))], q.1.2⟩) (fun q => l.length - q.1.1)
    ⟨(0, _), by simp, fun j hj => absurd hj (by simp), rfl⟩ (AS.le_of rfl ⟨rfl, rfl, rfl, rfl, trivial⟩ (fun _ => rfl)) ?_
  rintro ⟨⟨k, h⟩, hk, hg, h1⟩
  dsimp only at hk hg h1 ⊢
  by_cases hk2 : k = l.length
  · subst hk2
    rw [validD_yes hg]
    repeat' (first | refine ZV ?_ | refine ZB tm vdp_specs_ok ?_ | refine ZH (fun hb => ?_) (fun hb => ?_) | refine ZJ (by conv => lhs; simp [h1, cn]) ?_ | refine ZA (fun hb => ?_) (fun hb => ?_))
    all_goals (first | refine Ret.dataE rfl (by conv => lhs; simp) (by conv => lhs; simp) (by first | rfl | simp [inlT, inlV]) ?_ | refine RetNf.dataE rfl (by conv => lhs; simp) (by conv => lhs; simp) (by first | rfl | simp [inlT, inlV]) ?_)
    all_goals (first | rfl | (simp; done) | (simp_all; done) | (simp_all; omega))
  · have hlt : k < l.length := by omega
    obtain ⟨t, hr⟩ := get_lt hlt
    have hm : (l.map enC)[k]? = some (enC t) := by rw [List.getElem?_map, hr]; rfl
    have q1 : (k : Int) < l.length := by omega
    have q2 : ¬ l.length ≤ k := by omega
    have hw : IntKind.i64.wrap ((k : Int) + 1) = ((k + 1 : Nat) : Int) := w64 (by omega) (by omega)
    have cf := enS_eq fineB t (he t (List.mem_of_getElem? hr))
    simp only [enC] at cf hm
    cases hf : fineB t with
    | false =>
      rw [hf] at cf
      rw [validD_no hlt (by simp [goodD, hr, hf])]
      repeat' (first | refine ZV ?_ | refine ZB tm vdp_specs_ok ?_ | refine ZH (fun hb => ?_) (fun hb => ?_) | refine ZJ (by conv => lhs; simp [q1, q2, hm, h1, cf]) ?_ | refine ZA (fun hb => ?_) (fun hb => ?_))
      all_goals (first | refine Ret.dataE rfl (by conv => lhs; simp) (by conv => lhs; simp) (by first | rfl | simp [inlT, inlV]) ?_ | refine RetNf.dataE rfl (by conv => lhs; simp) (by conv => lhs; simp) (by first | rfl | simp [inlT, inlV]) ?_)
      all_goals (first | rfl | (simp; done) | (simp_all; done) | (simp_all; omega))
    | true =>
      rw [hf] at cf
      by_cases hz : k = 0
      · have hgk : goodD l k = true := by subst hz; simp [goodD, hr, hf]
        have hgn : ∀ j, j < k + 1 → goodD l j = true := fun j hj => by
          have h0 : j = k := by omega
          subst h0
          exact hgk
        have q5 : ¬ (0 : Int) < (k : Int) := by omega
        have q6 : ¬ 0 < k := by omega
        clear hz
        repeat' (first | refine ZV ?_ | refine ZB tm vdp_specs_ok ?_ | refine ZH (fun hb => ?_) (fun hb => ?_) | refine ZJ (by conv => lhs; simp [q1, q2, q5, q6, hm, h1, cf, hw]) ?_ | refine ZA (fun hb => ?_) (fun hb => ?_))
        exact ⟨⟨(k + 1, _), hlt, hgn, by simp [lk_st, h1]⟩, by dsimp only; omega, AS.le_of rfl ⟨rfl, rfl, rfl, rfl, trivial⟩ (fun _ => rfl)⟩
      · obtain ⟨j, hj⟩ : ∃ j, k = j + 1 := ⟨k - 1, by omega⟩
        obtain ⟨s, hs⟩ := get_lt (l := l) (i := j) (by omega)
        have hms : (l.map enC)[j]? = some (enC s) := by rw [List.getElem?_map, hs]; rfl
        simp only [enC] at hms
        have q3 : ¬ l.length ≤ j := by omega
        have q4 : (0 : Int) < (k : Int) := by omega
        have q4' : 0 < k := by omega
        have hd : IntKind.i64.wrap ((k : Int) - 1) = (j : Int) := by rw [w64 (by omega) (by omega)]; omega
        have q1' : (j : Int) < l.length := by omega
        by_cases hc : s.id < t.id
        · have hgk : goodD l k = true := by subst hj; simp [goodD, hr, hf, hs, hc]
          have hc2 : ¬ t.id ≤ s.id := by omega
          have hgn : ∀ i, i < k + 1 → goodD l i = true := fun i hi => by
            by_cases e : i = k
            · subst e
              exact hgk
            · exact hg i (by omega)
          repeat' (first | refine ZV ?_ | refine ZB tm vdp_specs_ok ?_ | refine ZH (fun hb => ?_) (fun hb => ?_) | refine ZJ (by conv => lhs; simp [q1, q1', q2, q3, q4, q4', hm, hms, h1, cf, hw, hd, hc2]) ?_ | refine ZA (fun hb => ?_) (fun hb => ?_))
          exact ⟨⟨(k + 1, _), hlt, hgn, by simp [lk_st, h1]⟩, by dsimp only; omega, AS.le_of rfl ⟨rfl, rfl, rfl, rfl, trivial⟩ (fun _ => rfl)⟩
        · rw [validD_no hlt (by subst hj; simp [goodD, hr, hf, hs, hc])]
          have hc2 : t.id ≤ s.id := by omega
          repeat' (first | refine ZV ?_ | refine ZB tm vdp_specs_ok ?_ | refine ZH (fun hb => ?_) (fun hb => ?_) | refine ZJ (by conv => lhs; simp [q1, q1', q2, q3, q4, q4', hm, hms, h1, cf, hw, hd, hc2]) ?_ | refine ZA (fun hb => ?_) (fun hb => ?_))
          all_goals (first | refine Ret.dataE rfl (by conv => lhs; simp) (by conv => lhs; simp) (by first | rfl | simp [inlT, inlV]) ?_ | refine RetNf.dataE rfl (by conv => lhs; simp) (by conv => lhs; simp) (by first | rfl | simp [inlT, inlV]) ?_)
          all_goals (first | rfl | (simp; done) | (simp_all; done) | (simp_all; omega))
theorem clone120_ok : FnC Tryz.prog 120 (cloneC 3 1 8) := by
  refine FnC.ofV 120 (fn := Tryz.f120) Tryz.func120 rfl (by kernel_rfl) fun args B r B' hS => ?_
  unfold cloneC at hS
  split at hS
  · simp only [Option.some.injEq, Prod.mk.injEq] at hS
    obtain ⟨rfl, rfl⟩ := hS
    refine ⟨by simp, ?_⟩
    change V _ (RetM _ _ 0 _ _) _ _ ⟨8, [(0, .nils)], []⟩
    repeat (first | refine NV.seq ?_ | refine NV.blk ?_ | refine V.seq rfl ?_ | refine V.block rfl ?_ | refine V.skip rfl ?_ | refine V.ret rfl ?_ | refine NV.nil ?_ | refine NV.loop ?_ | refine V.exit rfl ?_ | refine XV.seq ?_ | refine XV.loop ?_ | refine XV.hit ?_ | refine XV.pass (by decide) ?_ | refine V.condT rfl (by rfl) ?_ | refine V.condF rfl (by rfl) ?_ | refine V.region tm no_specs rfl (by conv => lhs; simp) fun _ => ?_ | refine V.regionD tm no_specs rfl (by conv => lhs; simp) (by conv => lhs; simp) (by kernel_rfl) fun _ => ?_)
    refine retM2_ok false [] [] ?_
    simp [retM2, movedOK, oldOK, frqT, frqV, frqVs, frqL, frq1, expG, expB3, renB, AV.ren, renL, List.range, List.range.loop, resVs, resV, pack, List.zipWith, List.idxOf?, List.findIdx?, List.findIdx?.go]
  · rename_i s rows
    split at hS
    · rename_i hc
      obtain ⟨rfl, h1, h1', h2⟩ := hc
      simp only [Option.some.injEq, Prod.mk.injEq] at hS
      obtain ⟨rfl, rfl⟩ := hS
      refine ⟨by simp, ?_⟩
      change V _ (RetM _ _ 0 _ _) _ _ ⟨8, [(0, .list 1 rows)], []⟩
      cases rows with
      | nil =>
        refine V.nilCase (t := 0) (s := 1) 0 rfl rfl ?_ ?_
        · repeat (first | refine NV.seq ?_ | refine NV.blk ?_ | refine V.seq rfl ?_ | refine V.block rfl ?_ | refine V.skip rfl ?_ | refine NV.nil ?_ | refine NV.loop ?_ | refine V.exit rfl ?_ | refine XV.seq ?_ | refine XV.loop ?_ | refine XV.hit ?_ | refine XV.pass (by decide) ?_ | refine V.condT rfl (by rfl) ?_ | refine V.condF rfl (by rfl) ?_ | refine V.region tm no_specs rfl (by conv => lhs; simp) fun _ => ?_ | refine V.regionD tm no_specs rfl (by conv => lhs; simp) (by conv => lhs; simp) (by kernel_rfl) fun _ => ?_)
          refine V.phantom (t := 2) 100 3 1 rfl rfl (by decide) ?_
          repeat (first | refine NV.seq ?_ | refine NV.blk ?_ | refine V.seq rfl ?_ | refine V.block rfl ?_ | refine V.skip rfl ?_ | refine V.ret rfl ?_ | refine NV.nil ?_ | refine NV.loop ?_ | refine V.exit rfl ?_ | refine XV.seq ?_ | refine XV.loop ?_ | refine XV.hit ?_ | refine XV.pass (by decide) ?_ | refine V.condT rfl (by rfl) ?_ | refine V.condF rfl (by rfl) ?_ | refine V.region tm no_specs rfl (by conv => lhs; simp) fun _ => ?_ | refine V.regionD tm no_specs rfl (by conv => lhs; simp) (by conv => lhs; simp) (by kernel_rfl) fun _ => ?_)
          simp only [List.length_nil, rowB]
          refine retM2_ok false [100] [0] ?_
          simp [retM2, movedOK, oldOK, frqT, frqV, frqVs, frqL, frq1, expG, expB3, renB, AV.ren, renL, List.range, List.range.loop, resVs, resV, pack, List.zipWith, List.idxOf?, List.findIdx?, List.findIdx?.go]
        · repeat (first | refine NV.seq ?_ | refine NV.blk ?_ | refine V.seq rfl ?_ | refine V.block rfl ?_ | refine V.skip rfl ?_ | refine V.ret rfl ?_ | refine NV.nil ?_ | refine NV.loop ?_ | refine V.exit rfl ?_ | refine XV.seq ?_ | refine XV.loop ?_ | refine XV.hit ?_ | refine XV.pass (by decide) ?_ | refine V.condT rfl (by rfl) ?_ | refine V.condF rfl (by rfl) ?_ | refine V.region tm no_specs rfl (by conv => lhs; simp) fun _ => ?_ | refine V.regionD tm no_specs rfl (by conv => lhs; simp) (by conv => lhs; simp) (by kernel_rfl) fun _ => ?_)
          simp only [List.length_nil, rowB]
          refine retM2_ok false [96] [0] ?_
          simp [retM2, movedOK, oldOK, frqT, frqV, frqVs, frqL, frq1, expG, expB3, renB, AV.ren, renL, List.range, List.range.loop, resVs, resV, pack, List.zipWith, List.idxOf?, List.findIdx?, List.findIdx?.go]
      | cons x rows =>
        simp only [List.length_cons] at h1 h2 h1'
        try simp only [Nat.mul_one] at h1
        repeat (first | refine NV.seq ?_ | refine NV.blk ?_ | refine V.seq rfl ?_ | refine V.block rfl ?_ | refine V.skip rfl ?_ | refine V.ret rfl ?_ | refine NV.nil ?_ | refine NV.loop ?_ | refine V.exit rfl ?_ | refine XV.seq ?_ | refine XV.loop ?_ | refine XV.hit ?_ | refine XV.pass (by decide) ?_ | refine V.condT rfl (by rfl) ?_ | refine V.condF rfl (by rfl) ?_ | refine V.region tm no_specs rfl (by conv => lhs; simp [h1, h2, h1']) fun _ => ?_ | refine V.regionD tm no_specs rfl (by conv => lhs; simp [h1, h2, h1']) (by conv => lhs; simp) (by kernel_rfl) fun _ => ?_)
        simp only [List.length_cons, rowB]
        refine retM2_ok false [96] [0] ?_
        simp [retM2, movedOK, oldOK, frqT, frqV, frqVs, frqL, frq1, expG, expB3, renB, AV.ren, renL, List.range, List.range.loop, resVs, resV, pack, List.zipWith, List.idxOf?, List.findIdx?, List.findIdx?.go]
    · cases hS
  · rename_i len b
    split at hS
    · rename_i hc
      obtain ⟨hb, rfl, h1, h2⟩ := hc
      simp only [Option.some.injEq, Prod.mk.injEq] at hS
      obtain ⟨rfl, rfl⟩ := hS
      rw [okB_eq hb]
      generalize b.rows = rows at h1 h2 ⊢
      refine ⟨by simp, ?_⟩
      change V _ (RetM _ _ 1 _ _) _ _ ⟨8, [(0, .sl 0 0 0 rows.length)], [(0, { gen := 0, kind := 2, elem := 3, size := 1, inl := true, rows })]⟩
      cases rows with
      | nil =>
        refine V.slNil (t := 0) 1 rfl rfl rfl rfl ?_ ?_
        · repeat (first | refine NV.seq ?_ | refine NV.blk ?_ | refine V.seq rfl ?_ | refine V.block rfl ?_ | refine V.skip rfl ?_ | refine NV.nil ?_ | refine NV.loop ?_ | refine V.exit rfl ?_ | refine XV.seq ?_ | refine XV.loop ?_ | refine XV.hit ?_ | refine XV.pass (by decide) ?_ | refine V.condT rfl (by rfl) ?_ | refine V.condF rfl (by rfl) ?_ | refine V.region tm no_specs rfl (by conv => lhs; simp) fun _ => ?_ | refine V.regionD tm no_specs rfl (by conv => lhs; simp) (by conv => lhs; simp) (by kernel_rfl) fun _ => ?_)
          refine V.phantom (t := 2) 100 3 1 rfl rfl (by decide) ?_
          repeat (first | refine NV.seq ?_ | refine NV.blk ?_ | refine V.seq rfl ?_ | refine V.block rfl ?_ | refine V.skip rfl ?_ | refine V.ret rfl ?_ | refine NV.nil ?_ | refine NV.loop ?_ | refine V.exit rfl ?_ | refine XV.seq ?_ | refine XV.loop ?_ | refine XV.hit ?_ | refine XV.pass (by decide) ?_ | refine V.condT rfl (by rfl) ?_ | refine V.condF rfl (by rfl) ?_ | refine V.region tm no_specs rfl (by conv => lhs; simp) fun _ => ?_ | refine V.regionD tm no_specs rfl (by conv => lhs; simp) (by conv => lhs; simp) (by kernel_rfl) fun _ => ?_)
          simp only [List.length_nil, rowB]
          refine retM2_ok false [0, 100] [0, 0] ?_
          simp [retM2, movedOK, oldOK, frqT, frqV, frqVs, frqL, frq1, expG, expB3, renB, AV.ren, renL, List.range, List.range.loop, resVs, resV, pack, List.zipWith, List.idxOf?, List.findIdx?, List.findIdx?.go]
        · repeat (first | refine NV.seq ?_ | refine NV.blk ?_ | refine V.seq rfl ?_ | refine V.block rfl ?_ | refine V.skip rfl ?_ | refine V.ret rfl ?_ | refine NV.nil ?_ | refine NV.loop ?_ | refine V.exit rfl ?_ | refine XV.seq ?_ | refine XV.loop ?_ | refine XV.hit ?_ | refine XV.pass (by decide) ?_ | refine V.condT rfl (by rfl) ?_ | refine V.condF rfl (by rfl) ?_ | refine V.region tm no_specs rfl (by conv => lhs; simp) fun _ => ?_ | refine V.regionD tm no_specs rfl (by conv => lhs; simp) (by conv => lhs; simp) (by kernel_rfl) fun _ => ?_)
          simp only [List.length_nil, rowB]
          refine retM2_ok false [0, 96] [0, 0] ?_
          simp [retM2, movedOK, oldOK, frqT, frqV, frqVs, frqL, frq1, expG, expB3, renB, AV.ren, renL, List.range, List.range.loop, resVs, resV, pack, List.zipWith, List.idxOf?, List.findIdx?, List.findIdx?.go]
      | cons x rows =>
        simp only [List.length_cons] at h1 h2
        try simp only [Nat.mul_one] at h1
        repeat (first | refine NV.seq ?_ | refine NV.blk ?_ | refine V.seq rfl ?_ | refine V.block rfl ?_ | refine V.skip rfl ?_ | refine V.ret rfl ?_ | refine NV.nil ?_ | refine NV.loop ?_ | refine V.exit rfl ?_ | refine XV.seq ?_ | refine XV.loop ?_ | refine XV.hit ?_ | refine XV.pass (by decide) ?_ | refine V.condT rfl (by rfl) ?_ | refine V.condF rfl (by rfl) ?_ | refine V.region tm no_specs rfl (by conv => lhs; simp [h1, h2]) fun _ => ?_ | refine V.regionD tm no_specs rfl (by conv => lhs; simp [h1, h2]) (by conv => lhs; simp) (by kernel_rfl) fun _ => ?_)
        simp only [List.length_cons, rowB]
        refine retM2_ok false [0, 96] [0, 0] ?_
        simp [retM2, movedOK, oldOK, frqT, frqV, frqVs, frqL, frq1, expG, expB3, renB, AV.ren, renL, List.range, List.range.loop, resVs, resV, pack, List.zipWith, List.idxOf?, List.findIdx?, List.findIdx?.go]
    · cases hS
  · cases hS
theorem clone121_ok : FnC Tryz.prog 121 (cloneC 119 2 16) := by
  refine FnC.ofV 121 (fn := Tryz.f121) Tryz.func121 rfl (by kernel_rfl) fun args B r B' hS => ?_
  unfold cloneC at hS
  split at hS
  · simp only [Option.some.injEq, Prod.mk.injEq] at hS
    obtain ⟨rfl, rfl⟩ := hS
    refine ⟨by simp, ?_⟩
    change V _ (RetM _ _ 0 _ _) _ _ ⟨8, [(0, .nils)], []⟩
    repeat (first | refine NV.seq ?_ | refine NV.blk ?_ | refine V.seq rfl ?_ | refine V.block rfl ?_ | refine V.skip rfl ?_ | refine V.ret rfl ?_ | refine NV.nil ?_ | refine NV.loop ?_ | refine V.exit rfl ?_ | refine XV.seq ?_ | refine XV.loop ?_ | refine XV.hit ?_ | refine XV.pass (by decide) ?_ | refine V.condT rfl (by rfl) ?_ | refine V.condF rfl (by rfl) ?_ | refine V.region tm no_specs rfl (by conv => lhs; simp) fun _ => ?_ | refine V.regionD tm no_specs rfl (by conv => lhs; simp) (by conv => lhs; simp) (by kernel_rfl) fun _ => ?_)
    refine retM2_ok false [] [] ?_
    simp [retM2, movedOK, oldOK, frqT, frqV, frqVs, frqL, frq1, expG, expB3, renB, AV.ren, renL, List.range, List.range.loop, resVs, resV, pack, List.zipWith, List.idxOf?, List.findIdx?, List.findIdx?.go]
  · rename_i s rows
    split at hS
    · rename_i hc
      obtain ⟨rfl, h1, h1', h2⟩ := hc
      simp only [Option.some.injEq, Prod.mk.injEq] at hS
      obtain ⟨rfl, rfl⟩ := hS
      refine ⟨by simp, ?_⟩
      change V _ (RetM _ _ 0 _ _) _ _ ⟨8, [(0, .list 2 rows)], []⟩
      cases rows with
      | nil =>
        refine V.nilCase (t := 0) (s := 2) 0 rfl rfl ?_ ?_
        · repeat (first | refine NV.seq ?_ | refine NV.blk ?_ | refine V.seq rfl ?_ | refine V.block rfl ?_ | refine V.skip rfl ?_ | refine NV.nil ?_ | refine NV.loop ?_ | refine V.exit rfl ?_ | refine XV.seq ?_ | refine XV.loop ?_ | refine XV.hit ?_ | refine XV.pass (by decide) ?_ | refine V.condT rfl (by rfl) ?_ | refine V.condF rfl (by rfl) ?_ | refine V.region tm no_specs rfl (by conv => lhs; simp) fun _ => ?_ | refine V.regionD tm no_specs rfl (by conv => lhs; simp) (by conv => lhs; simp) (by kernel_rfl) fun _ => ?_)
          refine V.phantom (t := 2) 100 119 2 rfl rfl (by decide) ?_
          repeat (first | refine NV.seq ?_ | refine NV.blk ?_ | refine V.seq rfl ?_ | refine V.block rfl ?_ | refine V.skip rfl ?_ | refine V.ret rfl ?_ | refine NV.nil ?_ | refine NV.loop ?_ | refine V.exit rfl ?_ | refine XV.seq ?_ | refine XV.loop ?_ | refine XV.hit ?_ | refine XV.pass (by decide) ?_ | refine V.condT rfl (by rfl) ?_ | refine V.condF rfl (by rfl) ?_ | refine V.region tm no_specs rfl (by conv => lhs; simp) fun _ => ?_ | refine V.regionD tm no_specs rfl (by conv => lhs; simp) (by conv => lhs; simp) (by kernel_rfl) fun _ => ?_)
          simp only [List.length_nil, rowB]
          refine retM2_ok false [100] [0] ?_
          simp [retM2, movedOK, oldOK, frqT, frqV, frqVs, frqL, frq1, expG, expB3, renB, AV.ren, renL, List.range, List.range.loop, resVs, resV, pack, List.zipWith, List.idxOf?, List.findIdx?, List.findIdx?.go]
        · repeat (first | refine NV.seq ?_ | refine NV.blk ?_ | refine V.seq rfl ?_ | refine V.block rfl ?_ | refine V.skip rfl ?_ | refine V.ret rfl ?_ | refine NV.nil ?_ | refine NV.loop ?_ | refine V.exit rfl ?_ | refine XV.seq ?_ | refine XV.loop ?_ | refine XV.hit ?_ | refine XV.pass (by decide) ?_ | refine V.condT rfl (by rfl) ?_ | refine V.condF rfl (by rfl) ?_ | refine V.region tm no_specs rfl (by conv => lhs; simp) fun _ => ?_ | refine V.regionD tm no_specs rfl (by conv => lhs; simp) (by conv => lhs; simp) (by kernel_rfl) fun _ => ?_)
          simp only [List.length_nil, rowB]
          refine retM2_ok false [96] [0] ?_
          simp [retM2, movedOK, oldOK, frqT, frqV, frqVs, frqL, frq1, expG, expB3, renB, AV.ren, renL, List.range, List.range.loop, resVs, resV, pack, List.zipWith, List.idxOf?, List.findIdx?, List.findIdx?.go]
      | cons x rows =>
        simp only [List.length_cons] at h1 h2 h1'
        try simp only [Nat.mul_one] at h1
        repeat (first | refine NV.seq ?_ | refine NV.blk ?_ | refine V.seq rfl ?_ | refine V.block rfl ?_ | refine V.skip rfl ?_ | refine V.ret rfl ?_ | refine NV.nil ?_ | refine NV.loop ?_ | refine V.exit rfl ?_ | refine XV.seq ?_ | refine XV.loop ?_ | refine XV.hit ?_ | refine XV.pass (by decide) ?_ | refine V.condT rfl (by rfl) ?_ | refine V.condF rfl (by rfl) ?_ | refine V.region tm no_specs rfl (by conv => lhs; simp [h1, h2, h1']) fun _ => ?_ | refine V.regionD tm no_specs rfl (by conv => lhs; simp [h1, h2, h1']) (by conv => lhs; simp) (by kernel_rfl) fun _ => ?_)
        simp only [List.length_cons, rowB]
        refine retM2_ok false [96] [0] ?_
        simp [retM2, movedOK, oldOK, frqT, frqV, frqVs, frqL, frq1, expG, expB3, renB, AV.ren, renL, List.range, List.range.loop, resVs, resV, pack, List.zipWith, List.idxOf?, List.findIdx?, List.findIdx?.go]
    · cases hS
  · rename_i len b
    split at hS
    · rename_i hc
      obtain ⟨hb, rfl, h1, h2⟩ := hc
      simp only [Option.some.injEq, Prod.mk.injEq] at hS
      obtain ⟨rfl, rfl⟩ := hS
      rw [okB_eq hb]
      generalize b.rows = rows at h1 h2 ⊢
      refine ⟨by simp, ?_⟩
      change V _ (RetM _ _ 1 _ _) _ _ ⟨8, [(0, .sl 0 0 0 rows.length)], [(0, { gen := 0, kind := 2, elem := 119, size := 2, inl := true, rows })]⟩
      cases rows with
      | nil =>
        refine V.slNil (t := 0) 1 rfl rfl rfl rfl ?_ ?_
        · repeat (first | refine NV.seq ?_ | refine NV.blk ?_ | refine V.seq rfl ?_ | refine V.block rfl ?_ | refine V.skip rfl ?_ | refine NV.nil ?_ | refine NV.loop ?_ | refine V.exit rfl ?_ | refine XV.seq ?_ | refine XV.loop ?_ | refine XV.hit ?_ | refine XV.pass (by decide) ?_ | refine V.condT rfl (by rfl) ?_ | refine V.condF rfl (by rfl) ?_ | refine V.region tm no_specs rfl (by conv => lhs; simp) fun _ => ?_ | refine V.regionD tm no_specs rfl (by conv => lhs; simp) (by conv => lhs; simp) (by kernel_rfl) fun _ => ?_)
          refine V.phantom (t := 2) 100 119 2 rfl rfl (by decide) ?_
          repeat (first | refine NV.seq ?_ | refine NV.blk ?_ | refine V.seq rfl ?_ | refine V.block rfl ?_ | refine V.skip rfl ?_ | refine V.ret rfl ?_ | refine NV.nil ?_ | refine NV.loop ?_ | refine V.exit rfl ?_ | refine XV.seq ?_ | refine XV.loop ?_ | refine XV.hit ?_ | refine XV.pass (by decide) ?_ | refine V.condT rfl (by rfl) ?_ | refine V.condF rfl (by rfl) ?_ | refine V.region tm no_specs rfl (by conv => lhs; simp) fun _ => ?_ | refine V.regionD tm no_specs rfl (by conv => lhs; simp) (by conv => lhs; simp) (by kernel_rfl) fun _ => ?_)
          simp only [List.length_nil, rowB]
          refine retM2_ok false [0, 100] [0, 0] ?_
          simp [retM2, movedOK, oldOK, frqT, frqV, frqVs, frqL, frq1, expG, expB3, renB, AV.ren, renL, List.range, List.range.loop, resVs, resV, pack, List.zipWith, List.idxOf?, List.findIdx?, List.findIdx?.go]
        · repeat (first | refine NV.seq ?_ | refine NV.blk ?_ | refine V.seq rfl ?_ | refine V.block rfl ?_ | refine V.skip rfl ?_ | refine V.ret rfl ?_ | refine NV.nil ?_ | refine NV.loop ?_ | refine V.exit rfl ?_ | refine XV.seq ?_ | refine XV.loop ?_ | refine XV.hit ?_ | refine XV.pass (by decide) ?_ | refine V.condT rfl (by rfl) ?_ | refine V.condF rfl (by rfl) ?_ | refine V.region tm no_specs rfl (by conv => lhs; simp) fun _ => ?_ | refine V.regionD tm no_specs rfl (by conv => lhs; simp) (by conv => lhs; simp) (by kernel_rfl) fun _ => ?_)
          simp only [List.length_nil, rowB]
          refine retM2_ok false [0, 96] [0, 0] ?_
          simp [retM2, movedOK, oldOK, frqT, frqV, frqVs, frqL, frq1, expG, expB3, renB, AV.ren, renL, List.range, List.range.loop, resVs, resV, pack, List.zipWith, List.idxOf?, List.findIdx?, List.findIdx?.go]
      | cons x rows =>
        simp only [List.length_cons] at h1 h2
        try simp only [Nat.mul_one] at h1
        repeat (first | refine NV.seq ?_ | refine NV.blk ?_ | refine V.seq rfl ?_ | refine V.block rfl ?_ | refine V.skip rfl ?_ | refine V.ret rfl ?_ | refine NV.nil ?_ | refine NV.loop ?_ | refine V.exit rfl ?_ | refine XV.seq ?_ | refine XV.loop ?_ | refine XV.hit ?_ | refine XV.pass (by decide) ?_ | refine V.condT rfl (by rfl) ?_ | refine V.condF rfl (by rfl) ?_ | refine V.region tm no_specs rfl (by conv => lhs; simp [h1, h2]) fun _ => ?_ | refine V.regionD tm no_specs rfl (by conv => lhs; simp [h1, h2]) (by conv => lhs; simp) (by kernel_rfl) fun _ => ?_)
        simp only [List.length_cons, rowB]
        refine retM2_ok false [0, 96] [0, 0] ?_
        simp [retM2, movedOK, oldOK, frqT, frqV, frqVs, frqL, frq1, expG, expB3, renB, AV.ren, renL, List.range, List.range.loop, resVs, resV, pack, List.zipWith, List.idxOf?, List.findIdx?, List.findIdx?.go]
    · cases hS
  · cases hS
theorem clnI (l : List Int) (h : l.length ≤ 9100) : cloneC 3 1 8 [.list 1 (l.map iC)] [] = some (.sl 0 0 0 l.length, [{ gen := 0, kind := 2, elem := 3, size := 1, inl := true, rows := l.map iC }]) := by
  have e1 : l.length * 8 ≤ 140737488355328 := by omega
  have e2 : l.length ≤ 9223372036854775807 := by omega
  have e3 : l.length ≤ maxLen := by simp only [maxLen]; omega
  simp [cloneC, e1, e2, e3, rowB]
theorem clnA (l : List (Int × Int)) (h : l.length ≤ 9100) : cloneC 119 2 16 [.list 2 (l.map askC)] [] = some (.sl 0 0 0 l.length, [{ gen := 0, kind := 2, elem := 119, size := 2, inl := true, rows := l.map askC }]) := by
  have e1 : l.length * 16 ≤ 140737488355328 := by omega
  have e2 : l.length ≤ 9223372036854775807 := by omega
  have e3 : l.length ≤ maxLen := by simp only [maxLen]; omega
  simp [cloneC, e1, e2, e3, rowB]
def enX (e : En) (a b c : AV) : List AV := .int .u64 e.id :: .int .i64 e.owner :: a :: (e.obj.cells ++ [b, c])
noncomputable def ownS : SpecFn := mkS2 (fun e : {e : En // okE e} => ([.agg (enC e.1)], [])) fun e => (.agg (enX e.1 (.sl 0 0 0 e.1.readers.length) (.sl 1 0 0 e.1.waiting.length) (.sl 2 0 0 e.1.queue.length)), [ixiB e.1.readers, ixiB e.1.waiting, ixaB e.1.queue])
theorem ownS_eq (e : En) (h : okE e) : ownS [.agg (enC e)] [] = some (.agg (enX e (.sl 0 0 0 e.readers.length) (.sl 1 0 0 e.waiting.length) (.sl 2 0 0 e.queue.length)), [ixiB e.readers, ixiB e.waiting, ixaB e.queue]) :=
  mkS2_eq (enc := fun e : {e : En // okE e} => ([AV.agg (enC e.1)], ([] : List ABlk))) (res := fun e => (.agg (enX e.1 (.sl 0 0 0 e.1.readers.length) (.sl 1 0 0 e.1.waiting.length) (.sl 2 0 0 e.1.queue.length)), [ixiB e.1.readers, ixiB e.1.waiting, ixaB e.1.queue])) (fun x y h => by
    simp only [Prod.mk.injEq, List.cons.injEq, AV.agg.injEq, and_true] at h
    rw [enC_inj h]) ⟨e, h⟩
noncomputable def own_specs : NL Spec := [(120, ⟨3, cloneC 3 1 8⟩), (121, ⟨3, cloneC 119 2 16⟩), (45, ⟨1, cobS⟩)]
theorem own_specs_ok : ∀ p ∈ own_specs, FnC Tryz.prog p.1 p.2.fn := by
  simp only [own_specs, List.mem_cons, List.not_mem_nil, or_false]
  rintro p (rfl | rfl | rfl)
  · exact clone120_ok
  · exact clone121_ok
  · exact cob_ok
attribute [local simp] own_specs
theorem own_ok : FnC Tryz.prog 74 ownS := by
  refine FnC.walkB 74 (fn := Tryz.f74) Tryz.func74 rfl (by kernel_rfl) (fun x b hb => by simp at hb) fun e => ?_
  obtain ⟨⟨id, ow, rd, o, wt, q⟩, hrd, hwt, hq⟩ := e
  dsimp only at hrd hwt hq
  have c1 := clnI rd (by omega)
  have c2 := clnI wt (by omega)
  have c3 := clnA q (by omega)
  have c4 := cobS_eq o
  change W _ (RetB _ _ 0 (.agg (.int .u64 id :: .int .i64 ow :: .sl 0 0 0 rd.length :: (o.cells ++ [.sl 1 0 0 wt.length, .sl 2 0 0 q.length]))) [ixiB rd, ixiB wt, ixaB q]) _ _ ⟨20, [(0, .agg (.int .u64 id :: .int .i64 ow :: .list 1 (rd.map iC) :: (o.cells ++ [.list 1 (wt.map iC), .list 2 (q.map askC)])))], []⟩
  repeat' (first | refine ZV ?_ | refine ZB tm own_specs_ok ?_ | refine ZH (fun hb => ?_) (fun hb => ?_) | refine ZJ (by conv => lhs; simp [c1, c2, c3, c4]) ?_ | refine ZA (fun hb => ?_) (fun hb => ?_))
  exact RetB.raw [96, 144, 192] rfl (by conv => lhs; simp) (by decide) (by simp) (by simp [ixiB, ixaB]) (by simp [List.idxOf?, List.findIdx?, List.findIdx?.go])
end Go.Abs.Nz
namespace Go.Abs.Nz
open Go Go.Proofs Go.Abs
set_option maxRecDepth 100000
set_option maxHeartbeats 4000000
set_option linter.unusedSimpArgs false
set_option linter.unusedVariables false
attribute [local simp] instA
attribute [-simp] mkv
attribute [local simp] mkv_hd hdA_cons hdA_ob hdA_ob'
def ixnF (p : En → Bool) : Nat → List En → Int
  | _, [] => -1
  | k, x :: r => if p x then (k : Int) else ixnF p (k + 1) r
theorem ixnF_drop {p : En → Bool} {l : List En} {k : Nat} {x : En} (h : l[k]? = some x) : ixnF p k (l.drop k) = if p x then (k : Int) else ixnF p (k + 1) (l.drop (k + 1)) := by
  obtain ⟨hk, rfl⟩ := List.getElem?_eq_some_iff.1 h
  rw [List.drop_eq_getElem_cons hk, ixnF]
theorem ixnF_end {p : En → Bool} {l : List En} : ixnF p l.length (l.drop l.length) = -1 := by rw [List.drop_length]; rfl
structure ixnV where
  F : FuncId
  p : En → Bool
  S : SpecFn
  ok : FnC Tryz.prog F S
  eq : ∀ x, S [.agg (enC x)] [] = some (.bool (p x), [])
structure ixnW where
  F : FuncId
  ne : (F = 72) = False
  ne2 : (72 = F) = False
  p : En → Bool
  E : Nat
  s : Nat
  row : List AV
  refs : refsL row = []
  ren : ∀ f, renL f row = row
  S : SpecFn
  ok : FnC Tryz.prog F S
  eq : ∀ x, S [.agg (enC x), .ptr 0 0 0 0] [{ gen := 0, kind := 2, elem := E, size := s, inl := false, rows := [row] }] = some (.bool (p x), [{ gen := 0, kind := 2, elem := E, size := s, inl := false, rows := [row] }])
def ixnW.b (v : ixnW) : ABlk := { gen := 0, kind := 2, elem := v.E, size := v.s, inl := false, rows := [v.row] }
theorem ixnC_inj {l m : List En} (h : l.map enC = m.map enC) : l = m := map_inj' (fun a b h => (enC_inj h)) h
noncomputable def ixn1 (v : ixnW) : SpecFn := mkS2 (fun l : {l : List En // l.length ≤ 9100} => ([.list 41 (l.1.map enC), .fn (.func v.F) [] [.ptr 0 0 0 0]], [v.b])) fun l => (.int .i64 (ixnF v.p 0 l.1), [v.b])
theorem ixn1_eq (v : ixnW) (l : List En) (h : l.length ≤ 9100) : ixn1 v [.list 41 (l.map enC), .fn (.func v.F) [] [.ptr 0 0 0 0]] [v.b] = some (.int .i64 (ixnF v.p 0 l), [v.b]) :=
  mkS2_eq (enc := fun l : {l : List En // l.length ≤ 9100} => ([AV.list 41 (l.1.map enC), .fn (.func v.F) [] [.ptr 0 0 0 0]], [v.b])) (res := fun l => (AV.int .i64 (ixnF v.p 0 l.1), [v.b])) (fun x y h => by
    simp only [Prod.mk.injEq, List.cons.injEq, AV.list.injEq, true_and, and_true] at h
    rw [ixnC_inj h]) ⟨l, h⟩
theorem ixn1_ok (v : ixnW) : FnC Tryz.prog 72 (ixn1 v) := by
  obtain ⟨G, ne, ne2, p, E, s, row, rf, rn, S, ok, eq⟩ := v
  have sp : ∀ q ∈ ([(G, ⟨3, S⟩)] : NL Spec), FnC Tryz.prog q.1 q.2.fn := by
    simp only [List.mem_cons, List.not_mem_nil, or_false]
    rintro q rfl
    exact ok
  refine FnC.walkB 72 (fn := Tryz.f72) Tryz.func72 rfl (by kernel_rfl) (fun x b hb => by simp at hb; rw [hb]; rfl) fun x => ?_
  obtain ⟨l, hl⟩ := x
  obtain ⟨b, hB⟩ : ∃ b : ABlk, b = { gen := 0, kind := 2, elem := E, size := s, inl := false, rows := [row] } := ⟨_, rfl⟩
  change W _ (RetB _ _ 1 (.int .i64 (ixnF p 0 l)) [{ gen := 0, kind := 2, elem := E, size := s, inl := false, rows := [row] }]) _ _ ⟨19, [(0, .list 41 (l.map enC)), (1, .fn (.func G) [] [.ptr 0 0 0 0])], [(0, { gen := 0, kind := 2, elem := E, size := s, inl := false, rows := [row] })]⟩
  have cap : l.length ≤ 9223372036854775807 := by omega
  repeat' (first | refine ZV ?_ | refine ZB tm sp ?_ | refine ZH (fun hb => ?_) (fun hb => ?_) | refine ZJ (by conv => lhs; simp [cap]) ?_ | refine ZA (fun hb => ?_) (fun hb => ?_))
  refine W.loop rfl (ι := { q : Nat × NL ABlk // q.1 ≤ l.length ∧ ixnF p 0 l = ixnF p q.1 (l.drop q.1) ∧ lk q.2 0 = some { gen := 0, kind := 2, elem := E, size := s, inl := false, rows := [row] } })
    (fun q => ⟨19, [(0, .list 41 (l.map enC)), (1, .fn (.func G) [] [.ptr 0 0 0 0]), (7, .int .i64 l.length), (8, .int .i64 (q.1.1 : Nat))], q.1.2⟩) (fun q => l.length - q.1.1)
    ⟨(0, _), by simp, rfl, rfl⟩ (AS.le_of rfl ⟨rfl, rfl, rfl, rfl, trivial⟩ (fun _ => rfl)) ?_
  rintro ⟨⟨k, h⟩, hk, hf, h1⟩
  dsimp only at hk hf h1 ⊢
  by_cases hk2 : k = l.length
  · subst hk2
    rw [ixnF_end] at hf
    rw [hf]
    repeat' (first | refine ZV ?_ | refine ZB tm sp ?_ | refine ZH (fun hb => ?_) (fun hb => ?_) | refine ZJ (by conv => lhs; simp) ?_ | refine ZA (fun hb => ?_) (fun hb => ?_))
    exact RetB.raw [0] rfl (by conv => lhs; simp) (by decide) (by simp [h1]) (by simp [h1, rn]) (by simp)
  · have hlt : k < l.length := by omega
    obtain ⟨m, hr⟩ := get_lt hlt
    have hm : (l.map enC)[k]? = some (enC m) := by rw [List.getElem?_map, hr]; rfl
    have q1 : (k : Int) < l.length := by omega
    have q2 : ¬ l.length ≤ k := by omega
    have hw : IntKind.i64.wrap ((k : Int) + 1) = ((k + 1 : Nat) : Int) := w64 (by omega) (by omega)
    rw [ixnF_drop hr] at hf
    have cf := eq m
    clear hlt hk2
    simp only [enC] at cf hm
    cases ho : p m with
    | true =>
      rw [if_pos ho] at hf
      rw [hf]
      rw [ho] at cf
      repeat' (first | refine ZV ?_ | refine ZB tm sp ?_ | refine ZH (fun hb => ?_) (fun hb => ?_) | refine ZJ (by conv => lhs; simp [q1, q2, hm, cf, h1, rf, rn, iC]) ?_ | refine ZA (fun hb => ?_) (fun hb => ?_))
      exact RetB.raw [0] rfl (by conv => lhs; simp) (by decide) (by simp) (by simp [rn]) (by simp)
    | false =>
      rw [if_neg (by simp [ho])] at hf
      rw [ho] at cf
      repeat' (first | refine ZV ?_ | refine ZB tm sp ?_ | refine ZH (fun hb => ?_) (fun hb => ?_) | refine ZJ (by conv => lhs; simp [q1, q2, hm, cf, hw, h1, rf, rn, iC]) ?_ | refine ZA (fun hb => ?_) (fun hb => ?_))
      exact ⟨⟨(k + 1, _), by dsimp only; omega, hf, by simp [lk_st]⟩, by dsimp only; omega, AS.le_of rfl ⟨rfl, rfl, rfl, rfl, trivial⟩ (fun _ => rfl)⟩
theorem ixnF_find {p : En → Bool} : ∀ (l : List En) (k : Nat), (ixnF p k l = -1 ∧ l.find? p = none) ∨ ∃ i e, ixnF p k l = ((k + i : Nat) : Int) ∧ l[i]? = some e ∧ l.find? p = some e
  | [], k => .inl ⟨rfl, rfl⟩
  | x :: r, k => by
    rw [ixnF, List.find?_cons]
    cases hp : p x with
    | true => exact .inr ⟨0, x, by simp, rfl, rfl⟩
    | false =>
      rcases ixnF_find (p := p) r (k + 1) with ⟨h1, h2⟩ | ⟨i, y, h1, h2, h3⟩
      · exact .inl ⟨by simpa using h1, h2⟩
      · refine .inr ⟨i + 1, y, ?_, by simpa using h2, h3⟩
        rw [if_neg (by simp), h1]
        congr 1
        omega
def u8K (n : Int) : List AV := [.int .u64 n]
noncomputable def e1S (id : Int) : SpecFn := mkS2 (fun e : En => ([.agg (enC e), .ptr 0 0 0 0], [{ gen := 0, kind := 2, elem := 26, size := 1, inl := false, rows := [u8K id] }])) fun e => (.bool (e.id == id), [{ gen := 0, kind := 2, elem := 26, size := 1, inl := false, rows := [u8K id] }])
theorem e1S_eq (id : Int) (e : En) : e1S id [.agg (enC e), .ptr 0 0 0 0] [{ gen := 0, kind := 2, elem := 26, size := 1, inl := false, rows := [u8K id] }] = some (.bool (e.id == id), [{ gen := 0, kind := 2, elem := 26, size := 1, inl := false, rows := [u8K id] }]) :=
  mkS2_eq (enc := fun e : En => ([AV.agg (enC e), .ptr 0 0 0 0], [{ gen := 0, kind := 2, elem := 26, size := 1, inl := false, rows := [u8K id] }])) (res := fun e => (.bool (e.id == id), [{ gen := 0, kind := 2, elem := 26, size := 1, inl := false, rows := [u8K id] }])) (fun x y h => by
    simp only [Prod.mk.injEq, List.cons.injEq, AV.agg.injEq, and_true] at h
    rw [enC_inj h]) e
theorem e1_ok (id : Int) : FnC Tryz.prog 73 (e1S id) := by
  refine FnC.walkB 73 (fn := Tryz.f73) Tryz.func73 rfl (by kernel_rfl) (fun x b hb => by simp at hb; rw [hb]) fun e => ?_
  obtain ⟨i, ow, rd, o, wt, q⟩ := e
  change W _ (RetB _ _ 1 (.bool (i == id)) [{ gen := 0, kind := 2, elem := 26, size := 1, inl := false, rows := [[.int .u64 id]] }]) _ _ ⟨8, [(0, .agg (.int .u64 i :: .int .i64 ow :: .list 1 (rd.map iC) :: (o.cells ++ [.list 1 (wt.map iC), .list 2 (q.map askC)]))), (1, .ptr 0 0 0 0)], [(0, { gen := 0, kind := 2, elem := 26, size := 1, inl := false, rows := [[.int .u64 id]] })]⟩
  repeat' (first | refine ZV ?_ | refine ZB tm no_specs ?_ | refine ZH (fun hb => ?_) (fun hb => ?_) | refine ZJ (by conv => lhs; simp) ?_ | refine ZA (fun hb => ?_) (fun hb => ?_))
  exact RetB.raw [0] rfl (by conv => lhs; simp) (by decide) (by simp) (by simp [renL]) (by simp)
noncomputable def e1V (id : Int) : ixnW := ⟨73, by simp, by simp, fun e => e.id == id, 26, 1, u8K id, by simp [u8K, refsL, AV.refs], by simp [u8K, renL, AV.ren], e1S id, e1_ok id, e1S_eq id⟩
noncomputable def ow0 (id : Int) : Int := if okN (sp0 id) then sp0 id else -1
noncomputable def ent0 (id : Int) : En := ⟨id, ow0 id, [], zOb, [], []⟩
noncomputable def fndD (id : Int) (l : List En) : En := (l.find? fun e => e.id == id).getD (ent0 id)
theorem enLeafs : leafs Tryz.prog 85 = 26 :: 3 :: 82 :: (leafs Tryz.prog 44 ++ [82, 83]) := by rw [lf85, lf44]; rfl
theorem enX_nrm (e : En) (i j k g h m a b c x y z : Nat) : nrmR Tryz.prog [85] (.agg (enX e (.sl i g a x) (.sl j h b y) (.sl k m c z))) = .agg (enX e (.sl i g a x) (.sl j h b y) (.sl k m c z)) := by
  simp only [nrmR, nrmV, enX, enLeafs, nrmL]
  rw [nrmL_append _ _ _ _ e.obj.len'.symm, e.obj.nrmL]
  simp [nrmL, nrmV]
theorem enX_nrm0 (id ow : Int) (i j k g h m a b c x y z : Nat) : nrmR Tryz.prog [85] (.agg (.int .u64 id :: .int .i64 ow :: .sl i g a x :: (zO ++ [.sl j h b y, .sl k m c z]))) = .agg (enX ⟨id, ow, [], zOb, [], []⟩ (.sl i g a x) (.sl j h b y) (.sl k m c z)) := by
  simp only [nrmR, nrmV, enX, enLeafs, nrmL]
  rw [nrmL_append _ _ _ _ (by rw [obLeafs]; rfl), zN_eq]
  simp [nrmL, nrmV, zOb]
noncomputable def entS : SpecFn := mkS2 (fun d : Drs × Int => ([d.1.v, .int .u64 d.2], [])) fun d => (.agg (enX (fndD d.2 d.1.ents) (.sl 0 0 0 (fndD d.2 d.1.ents).readers.length) (.sl 1 0 0 (fndD d.2 d.1.ents).waiting.length) (.sl 2 0 0 (fndD d.2 d.1.ents).queue.length)), [ixiB (fndD d.2 d.1.ents).readers, ixiB (fndD d.2 d.1.ents).waiting, ixaB (fndD d.2 d.1.ents).queue])
theorem entS_eq (d : Drs) (id : Int) : entS [d.v, .int .u64 id] [] = some (.agg (enX (fndD id d.ents) (.sl 0 0 0 (fndD id d.ents).readers.length) (.sl 1 0 0 (fndD id d.ents).waiting.length) (.sl 2 0 0 (fndD id d.ents).queue.length)), [ixiB (fndD id d.ents).readers, ixiB (fndD id d.ents).waiting, ixaB (fndD id d.ents).queue]) :=
  mkS2_eq (enc := fun d : Drs × Int => ([d.1.v, AV.int .u64 d.2], ([] : List ABlk))) (res := fun d => (.agg (enX (fndD d.2 d.1.ents) (.sl 0 0 0 (fndD d.2 d.1.ents).readers.length) (.sl 1 0 0 (fndD d.2 d.1.ents).waiting.length) (.sl 2 0 0 (fndD d.2 d.1.ents).queue.length)), [ixiB (fndD d.2 d.1.ents).readers, ixiB (fndD d.2 d.1.ents).waiting, ixaB (fndD d.2 d.1.ents).queue])) (fun x y h => by
    simp only [Prod.mk.injEq, List.cons.injEq, AV.int.injEq, true_and, and_true] at h
    obtain ⟨a, b⟩ := x
    obtain ⟨a', b'⟩ := y
    cases Drs.v_inj h.1
    cases h.2
    rfl) (d, id)
theorem ent_ok : FnC Tryz.prog 35 entS := by
  refine FnC.walkBN 35 (fn := Tryz.f35) [85] Tryz.func35 rfl (by kernel_rfl) (fun x b hb => by simp at hb) (fun d => ?_) (fun d => ⟨_, enX_nrm _ _ _ _ _ _ _ _ _ _ _ _ _⟩)
  obtain ⟨⟨nd, l, hl, he⟩, id⟩ := d
  obtain ⟨SV, hSV⟩ : ∃ S, S = ixn1 (e1V id) := ⟨_, rfl⟩
  have sp : ∀ q ∈ ([(72, ⟨3, SV⟩), (74, ⟨1, ownS⟩), (75, ⟨1, spS⟩), (62, ⟨1, boS okN⟩)] : NL Spec), FnC Tryz.prog q.1 q.2.fn := by
    simp only [List.mem_cons, List.not_mem_nil, or_false]
    rintro q (rfl | rfl | rfl | rfl)
    · rw [hSV]; exact ixn1_ok _
    · exact own_ok
    · exact sp_id
    · exact nod_ok
  have c1 : SV [.list 41 (l.map enC), .fn (.func 73) [] [.ptr 0 0 0 0]] [{ gen := 0, kind := 2, elem := 26, size := 1, inl := false, rows := [[.int .u64 id]] }] = some (.int .i64 (ixnF (fun e => e.id == id) 0 l), [{ gen := 0, kind := 2, elem := 26, size := 1, inl := false, rows := [[.int .u64 id]] }]) := by rw [hSV]; exact ixn1_eq (e1V id) l (by omega)
  clear hSV
  change W _ (RetBN _ _ _ 0 (.agg (enX (fndD id l) (.sl 0 0 0 (fndD id l).readers.length) (.sl 1 0 0 (fndD id l).waiting.length) (.sl 2 0 0 (fndD id l).queue.length))) [ixiB (fndD id l).readers, ixiB (fndD id l).waiting, ixaB (fndD id l).queue]) _ _ ⟨33, [(0, .agg [.int .i64 nd, .list 41 (l.map enC)]), (1, .int .u64 id)], []⟩
  unfold fndD
  rcases ixnF_find (p := fun e => e.id == id) l 0 with ⟨h1, h2⟩ | ⟨i, e, h1, h2, h3⟩
  · rw [h1] at c1
    rw [h2, Option.getD_none]
    unfold ent0
    have c2 := spS_eq id
    have c3 := boS_eq okN (sp0 id)
    obtain ⟨w, hw⟩ : ∃ w, ow0 id = w := ⟨_, rfl⟩
    rw [hw]
    unfold ow0 at hw
    generalize sp0 id = s0 at *
    generalize sp1 id = s1 at *
    generalize sp2 id = s2 at *
    cases ho : okN s0 with
    | true =>
      rw [ho] at c3
      rw [if_pos ho] at hw
      subst hw
      repeat (first | refine ZU ?_ | refine ZK tm sp rfl (by conv => lhs; simp [c1, c2, c3]) fun _ => ?_ | refine ZL tm sp rfl (by conv => lhs; simp [c1, c2, c3]) fun _ => ?_)
      refine W.phR 80 0 2 10001 3 1 true rfl rfl rfl rfl rfl rfl (by decide) ?_
      refine W.phR 80 0 39 10002 3 1 true rfl rfl rfl rfl rfl rfl (by decide) ?_
      refine W.phR 80 0 40 10003 119 2 true rfl rfl rfl rfl rfl rfl (by decide) ?_
      try refine ZT ?_
      refine RetBN.dataE false [10001, 10002, 10003] rfl (by conv => lhs; simp) (by conv => lhs; simp) (by decide) (by simp) (by simp [ixiB, ixaB]) (by conv => lhs; simp [List.idxOf?, List.findIdx?, List.findIdx?.go]) ?_
      exact enX_nrm0 _ _ _ _ _ _ _ _ _ _ _ _ _ _
    | false =>
      rw [ho] at c3
      rw [if_neg (by simp [ho])] at hw
      subst hw
      repeat (first | refine ZU ?_ | refine ZK tm sp rfl (by conv => lhs; simp [c1, c2, c3]) fun _ => ?_ | refine ZL tm sp rfl (by conv => lhs; simp [c1, c2, c3]) fun _ => ?_)
      refine W.phR 80 0 2 10001 3 1 true rfl rfl rfl rfl rfl rfl (by decide) ?_
      refine W.phR 80 0 39 10002 3 1 true rfl rfl rfl rfl rfl rfl (by decide) ?_
      refine W.phR 80 0 40 10003 119 2 true rfl rfl rfl rfl rfl rfl (by decide) ?_
      try refine ZT ?_
      refine RetBN.dataE false [10001, 10002, 10003] rfl (by conv => lhs; simp) (by conv => lhs; simp) (by decide) (by simp) (by simp [ixiB, ixaB]) (by conv => lhs; simp [List.idxOf?, List.findIdx?, List.findIdx?.go]) ?_
      exact enX_nrm0 _ _ _ _ _ _ _ _ _ _ _ _ _ _
  · simp only [Nat.zero_add] at h1
    rw [h1] at c1
    rw [h3, Option.getD_some]
    have hi := (List.getElem?_eq_some_iff.1 h2).1
    have hm : (l.map enC)[i]? = some (enC e) := by rw [List.getElem?_map, h2]; rfl
    have c2 := ownS_eq e (he e (List.mem_of_getElem? h2))
    simp only [enC] at hm c2
    have q1 : (i : Int) < l.length := by omega
    have q2 : ¬ l.length ≤ i := by omega
    have q3 : (0 : Int) ≤ (i : Int) := by omega
    repeat' (first | refine ZV ?_ | refine ZB tm sp ?_ | refine ZH (fun hb => ?_) (fun hb => ?_) | refine ZJ (by conv => lhs; simp [c1, c2, hm, q1, q2, q3, enX, ixiB, ixaB]) ?_ | refine ZA (fun hb => ?_) (fun hb => ?_))
    refine RetBN.dataE false [336, 337, 338] rfl (by conv => lhs; simp) (by conv => lhs; simp) (by decide) (by simp) (by simp [ixiB, ixaB]) (by conv => lhs; simp [List.idxOf?, List.findIdx?, List.findIdx?.go]) ?_
    exact enX_nrm e _ _ _ _ _ _ _ _ _ _ _ _
end Go.Abs.Nz
namespace Go.Abs.Nz
open Go Go.Proofs Go.Abs
set_option maxRecDepth 100000
set_option maxHeartbeats 4000000
set_option linter.unusedSimpArgs false
set_option linter.unusedVariables false
attribute [local simp] instA
attribute [-simp] mkv
attribute [local simp] mkv_hd hdA_cons hdA_ob hdA_ob'
@[simp] def sesC (e : En) (nd : Int) (M : AV) : List AV := .int .u64 e.id :: .int .i64 e.owner :: .list 1 (e.readers.map iC) :: (e.obj.cells ++ [.list 1 (e.waiting.map iC), .list 2 (e.queue.map askC), .int .i64 nd, M])
def sesB (e : En) (nd : Int) (M : AV) : ABlk := { gen := 0, kind := 2, elem := 117, size := 43, inl := false, rows := [sesC e nd M] }
def msgB (g : Nat) (ms : List Msg) : ABlk := { gen := g, kind := 2, elem := 46, size := 45, inl := true, rows := ms.map Msg.v }
theorem msv_inj {l m : List Msg} (h : l.map Msg.v = m.map Msg.v) : l = m := map_inj' (fun a b h => by
  obtain ⟨a1, a2, a3, a4, a5, o, a6, a7, a8, a9⟩ := a
  obtain ⟨b1, b2, b3, b4, b5, p, b6, b7, b8, b9⟩ := b
  simp only [Msg.v, List.cons.injEq, AV.int.injEq, true_and] at h
  obtain ⟨rfl, rfl, rfl, rfl, rfl, h⟩ := h
  obtain ⟨h1, h2⟩ := List.append_inj h (by simp)
  simp only [List.cons.injEq, AV.int.injEq, true_and, and_true] at h2
  obtain ⟨rfl, rfl, rfl, rfl⟩ := h2
  rw [Td.ext h1]) h
theorem sesC_inj {e e' : En} {nd nd' : Int} {M M' : AV} (h : sesC e nd M = sesC e' nd' M') : e = e' ∧ nd = nd' ∧ M = M' := by
  obtain ⟨a, b, r, o, w, q⟩ := e
  obtain ⟨a', b', r', o', w', q'⟩ := e'
  simp only [sesC, List.cons.injEq, AV.int.injEq, AV.list.injEq, true_and] at h
  obtain ⟨rfl, rfl, h0, h⟩ := h
  obtain ⟨h1, h2⟩ := List.append_inj h (by simp)
  simp only [List.cons.injEq, AV.list.injEq, AV.int.injEq, true_and, and_true] at h2
  cases iC_inj h0
  cases iC_inj h2.1
  cases askC_inj h2.2.1
  rw [Td.ext h1]
  exact ⟨rfl, h2.2.2.1, h2.2.2.2⟩
def graM (nd id n m : Int) (o : Ob) : Msg := ⟨nd, n, 2, id, m, o, 0, 0, 0, 0⟩
noncomputable def revM (nd id n : Int) : Msg := ⟨nd, n, 3, id, 0, zOb, 0, 0, 0, 0⟩
structure Gr where
  e : En
  nd : Int
  ms : List Msg
  n : Int
  m : Int
  q : List (Int × Int)
  hq : e.queue = (n, m) :: q
  hl : e.queue.length ≤ 9000
  hm : ms.length ≤ 90000
noncomputable def graS : SpecFn := mkS2 (fun x : Gr => ([.ptr 0 0 0 0], [sesB x.e x.nd (.sl 1 0 0 x.ms.length), msgB 0 x.ms])) fun x => (.tup [], [sesB { x.e with queue := x.q } x.nd (.sl 1 1 0 (x.ms.length + 1)), msgB 1 (x.ms ++ [graM x.nd x.e.id x.n x.m x.e.obj])])
theorem graS_eq (x : Gr) : graS [.ptr 0 0 0 0] [sesB x.e x.nd (.sl 1 0 0 x.ms.length), msgB 0 x.ms] = some (.tup [], [sesB { x.e with queue := x.q } x.nd (.sl 1 1 0 (x.ms.length + 1)), msgB 1 (x.ms ++ [graM x.nd x.e.id x.n x.m x.e.obj])]) :=
  mkS2_eq (enc := fun x : Gr => ([AV.ptr 0 0 0 0], [sesB x.e x.nd (.sl 1 0 0 x.ms.length), msgB 0 x.ms])) (res := fun x => (.tup [], [sesB { x.e with queue := x.q } x.nd (.sl 1 1 0 (x.ms.length + 1)), msgB 1 (x.ms ++ [graM x.nd x.e.id x.n x.m x.e.obj])])) (fun x y h => by
    obtain ⟨e, nd, ms, n, m, q, hq, hl, hm⟩ := x
    obtain ⟨e', nd', ms', n', m', q', hq', hl', hm'⟩ := y
    simp only [sesB, msgB, Prod.mk.injEq, List.cons.injEq, ABlk.mk.injEq, true_and, and_true] at h
    obtain ⟨rfl, rfl, h3⟩ := sesC_inj h.1
    cases msv_inj h.2
    rw [hq] at hq'
    cases hq'
    rfl) x
noncomputable def gra_specs : NL Spec := [(45, ⟨1, cobS⟩)]
theorem gra_specs_ok : ∀ p ∈ gra_specs, FnC Tryz.prog p.1 p.2.fn := by
  simp only [gra_specs, List.mem_cons, List.not_mem_nil, or_false]
  rintro p rfl
  exact cob_ok
attribute [local simp] gra_specs
theorem gra_ok : FnC Tryz.prog 152 graS := by
  refine FnC.walkM 152 (fn := Tryz.f152) Tryz.func152 rfl (by kernel_rfl) (fun x b hb => by simp at hb; rcases hb with rfl | rfl <;> rfl) fun x => ?_
  obtain ⟨⟨id, ow, rd, o, wt, q0⟩, nd, ms, n, m, q, hq, hl, hm⟩ := x
  dsimp only at hq hl
  subst hq
  have c1 := cobS_eq o
  have y0 : ms.length ≤ 9223372036854775807 := by omega
  have y1 : ms.length ≤ maxLen := by simp only [maxLen]; omega
  have y2 : (ms.length + 1) * 536 ≤ 140737488355328 := by omega
  have y4 : ms.length + 1 ≤ maxLen := by simp only [maxLen]; omega
  have y5 : q.length + 1 ≤ 9223372036854775807 := by simp only [List.length_cons] at hl; omega
  change W _ (RetM _ _ 2 (.tup []) [sesB ⟨id, ow, rd, o, wt, q⟩ nd (.sl 1 1 0 (ms.length + 1)), msgB 1 (ms ++ [graM nd id n m o])]) _ _ ⟨49, [(0, .ptr 0 0 0 0)], [(0, { gen := 0, kind := 2, elem := 117, size := 43, inl := false, rows := [.int .u64 id :: .int .i64 ow :: .list 1 (rd.map iC) :: (o.cells ++ [.list 1 (wt.map iC), .list 2 ([.int .i64 n, .int .i64 m] :: q.map askC), .int .i64 nd, .sl 1 0 0 ms.length])] }), (1, { gen := 0, kind := 2, elem := 46, size := 45, inl := true, rows := ms.map Msg.v })]⟩
  have tq : List.take q.length (q.map askC) = q.map askC := List.take_of_length_le (by simp)
  repeat' (first | refine ZV ?_ | refine ZB tm gra_specs_ok ?_ | refine ZH (fun hb => ?_) (fun hb => ?_) | refine ZJ (by conv => lhs; simp [c1, y0, y1, y2, y4, y5, tq, m1]) ?_ | refine ZA (fun hb => ?_) (fun hb => ?_))
  refine retM2_ok false [0, 1] [0, 1] ?_
  simp [retM2, movedOK, oldOK, frqT, frqV, frqVs, frqL, frq1, expG, expB3, renB, AV.ren, renL, List.range, List.range.loop, resVs, resV, pack, List.zipWith, List.idxOf?, List.findIdx?, List.findIdx?.go, sesB, msgB, graM, tq]
structure De where
  e : En
  nd : Int
  ms : List Msg
  ns : List Int
  h0 : 0 < ns.length
  hl : ns.length ≤ 9100
  hm : ms.length ≤ 90000
def frzB (l : List Int) : ABlk := { gen := 0, kind := 1, elem := 3, size := 1, inl := true, rows := l.map iC }
noncomputable def demR (x : De) : AV × List ABlk := (.tup [], [sesB { x.e with waiting := x.ns } x.nd (.sl 2 1 0 (x.ms.length + x.ns.length)), frzB x.ns, msgB 1 (x.ms ++ x.ns.map (revM x.nd x.e.id))])
noncomputable def demS : SpecFn := mkS2 (fun x : De => ([.ptr 0 0 0 0, .sl 1 0 0 x.ns.length], [sesB x.e x.nd (.sl 2 0 0 x.ms.length), ixiB x.ns, msgB 0 x.ms])) demR
theorem demS_eq (x : De) : demS [.ptr 0 0 0 0, .sl 1 0 0 x.ns.length] [sesB x.e x.nd (.sl 2 0 0 x.ms.length), ixiB x.ns, msgB 0 x.ms] = some (demR x) :=
  mkS2_eq (enc := fun x : De => ([AV.ptr 0 0 0 0, .sl 1 0 0 x.ns.length], [sesB x.e x.nd (.sl 2 0 0 x.ms.length), ixiB x.ns, msgB 0 x.ms])) (res := demR) (fun x y h => by
    obtain ⟨e, nd, ms, ns, h0, hl, hm⟩ := x
    obtain ⟨e', nd', ms', ns', h0', hl', hm'⟩ := y
    simp only [sesB, msgB, ixiB, Prod.mk.injEq, List.cons.injEq, ABlk.mk.injEq, true_and, and_true] at h
    obtain ⟨rfl, rfl, h3⟩ := sesC_inj h.2.1
    cases iC_inj h.2.2.1
    cases msv_inj h.2.2.2
    rfl) x
theorem msg_nrms (l : List Msg) : (l.map Msg.v).map (nrmL Tryz.prog (leafs Tryz.prog 46)) = l.map Msg.v := by
  rw [List.map_map]
  exact List.map_congr_left fun x _ => msg_nrm x
theorem dem_ok : FnC Tryz.prog 151 demS := by
  refine FnC.walkM 151 (fn := Tryz.f151) Tryz.func151 rfl (by kernel_rfl) (fun x b hb => by simp at hb; rcases hb with rfl | rfl | rfl <;> rfl) fun x => ?_
  obtain ⟨⟨id, ow, rd, o, wt, q⟩, nd, ms, ns, h0, hl, hm⟩ := x
  change W _ (RetM _ _ 3 (.tup []) [sesB ⟨id, ow, rd, o, ns, q⟩ nd (.sl 2 1 0 (ms.length + ns.length)), frzB ns, msgB 1 (ms ++ ns.map (revM nd id))]) _ _ ⟨38, [(0, .ptr 0 0 0 0), (1, .sl 1 0 0 ns.length)], [(0, { gen := 0, kind := 2, elem := 117, size := 43, inl := false, rows := [.int .u64 id :: .int .i64 ow :: .list 1 (rd.map iC) :: (o.cells ++ [.list 1 (wt.map iC), .list 2 (q.map askC), .int .i64 nd, .sl 2 0 0 ms.length])] }), (1, { gen := 0, kind := 2, elem := 3, size := 1, inl := true, rows := ns.map iC }), (2, { gen := 0, kind := 2, elem := 46, size := 45, inl := true, rows := ms.map Msg.v })]⟩
  have cap : ns.length ≤ 9223372036854775807 := by omega
  have tn : List.take ns.length (ns.map iC) = ns.map iC := List.take_of_length_le (by simp)
  refine W.frz 1 rfl (by conv => lhs; simp [frqT, frqV, frqVs, frqL, frq1, tn]) ?_
  repeat' (first | refine ZV ?_ | refine ZB tm no_specs ?_ | refine ZH (fun hb => ?_) (fun hb => ?_) | refine ZJ (by conv => lhs; simp [cap]) ?_ | refine ZA (fun hb => ?_) (fun hb => ?_))
  refine W.loop rfl (ι := { x : Nat × NL ABlk // x.1 ≤ ns.length ∧ lk x.2 0 = some { gen := 0, kind := 2, elem := 117, size := 43, inl := false, rows := [.int .u64 id :: .int .i64 ow :: .list 1 (rd.map iC) :: (o.cells ++ [.list 1 (ns.map iC), .list 2 (q.map askC), .int .i64 nd, .sl 2 x.1 0 (ms.length + x.1)])] } ∧ lk x.2 1 = some (frzB ns) ∧ lk x.2 2 = some (msgB x.1 (ms ++ (ns.take x.1).map (revM nd id))) })
    (fun x => ⟨38, [(0, .ptr 0 0 0 0), (11, .list 1 (ns.map iC)), (12, .int .i64 ns.length), (13, .int .i64 (x.1.1 : Nat))], x.1.2⟩) (fun x => ns.length - x.1.1)
    ⟨(0, _), by simp, by simp [lk_st], by simp [lk_st, frzB], by simp [lk_st, msgB]⟩ (AS.le_of rfl ⟨rfl, rfl, rfl, rfl, trivial⟩ (fun _ => rfl)) ?_
  rintro ⟨⟨k, h⟩, hk, g0, g1, g2⟩
  dsimp only at hk g0 g1 g2 ⊢
  by_cases hk2 : k = ns.length
  · subst hk2
    rw [List.take_length] at g2
    repeat' (first | refine ZV ?_ | refine ZB tm no_specs ?_ | refine ZH (fun hb => ?_) (fun hb => ?_) | refine ZJ (by conv => lhs; simp) ?_ | refine ZA (fun hb => ?_) (fun hb => ?_))
    refine retM2_ok false [0, 1, 2] [0, 0, 1] ?_
    simp [retM2, movedOK, oldOK, frqT, frqV, frqVs, frqL, frq1, expG, expB3, renB, AV.ren, renL, List.range, List.range.loop, resVs, resV, pack, List.zipWith, List.idxOf?, List.findIdx?, List.findIdx?.go, sesB, msgB, g0, g1, g2, frzB]
  · have hlt : k < ns.length := by omega
    obtain ⟨n, hr⟩ := get_lt hlt
    have hm2 : (ns.map iC)[k]? = some [.int .i64 n] := by rw [List.getElem?_map, hr]; rfl
    have q1 : (k : Int) < ns.length := by omega
    have q2 : ¬ ns.length ≤ k := by omega
    have hw : IntKind.i64.wrap ((k : Int) + 1) = ((k + 1 : Nat) : Int) := w64 (by omega) (by omega)
    have ht : (ns.take (k + 1)).map (revM nd id) = (ns.take k).map (revM nd id) ++ [revM nd id n] := by rw [List.take_add_one, hr, Option.toList_some, List.map_append]; rfl
    have hlen : (ms ++ (ns.take k).map (revM nd id)).length = ms.length + k := by simp; omega
    obtain ⟨A, hA⟩ : ∃ A, ms ++ (ns.take k).map (revM nd id) = A := ⟨_, rfl⟩
    have hA2 : ms ++ (ns.take (k + 1)).map (revM nd id) = A ++ [revM nd id n] := by rw [ht, ← hA, List.append_assoc]
    rw [hA] at hlen g2
    obtain ⟨a, ha⟩ : ∃ a, ms.length + k = a := ⟨_, rfl⟩
    rw [ha] at hlen g0
    have e1 : ms.length + (k + 1) = a + 1 := by omega
    have y0 : a ≤ 9223372036854775807 := by omega
    have y1 : a ≤ maxLen := by simp only [maxLen]; omega
    have y2 : (a + 1) * 536 ≤ 140737488355328 := by omega
    have y4 : a + 1 ≤ maxLen := by simp only [maxLen]; omega
    have tA : List.take a (A.map Msg.v) = A.map Msg.v := List.take_of_length_le (by simp; omega)
    have gA := g2
    unfold msgB at g2
    clear hlt hk2 hm
    repeat' (first | refine ZV ?_ | refine ZB (id := 2) tm no_specs ?_ | refine ZB (id := 3) tm no_specs ?_ | refine ZB (id := 4) tm no_specs ?_ | refine ZH (fun hb => ?_) (fun hb => ?_) | refine ZJ (by conv => lhs; simp [q1, q2, hm2, g0, g1, g2, y0, y1, y2, y4, m1, tA, hlen]) ?_ | refine ZA (fun hb => ?_) (fun hb => ?_))
    obtain ⟨L, hL⟩ : ∃ L, leafs Tryz.prog 46 = L := ⟨_, rfl⟩
    refine W.nrmB 2 L (by simp only [lk_st]; rfl) rfl ?_
    repeat' (first | refine ZV ?_ | refine ZB tm no_specs ?_ | refine ZH (fun hb => ?_) (fun hb => ?_) | refine ZJ (by conv => lhs; simp [hw]) ?_ | refine ZA (fun hb => ?_) (fun hb => ?_))
    have hrow : List.map (nrmL Tryz.prog L) (firstRows a (A.map Msg.v)) ++ [nrmL Tryz.prog L (.int .i64 nd :: .int .i64 n :: .int .i64 3 :: .int .u64 id :: .int .i64 0 :: (zO ++ [.int .u64 0, .int .i64 0, .int .u64 0, .int .i64 0]))] = (A ++ [revM nd id n]).map Msg.v := by
      rw [← hL, first_all (by simpa using hlen), msg_nrms, List.map_append, msg_nrm0]
      rfl
    exact ⟨⟨(k + 1, _), by dsimp only; omega, by simp [lk_st, e1], by simp [lk_st, g1], by
      dsimp only
      rw [hA2]
      simp only [lk_st, msgB]
      exact congrArg (fun r => some ({ gen := k + 1, kind := 2, elem := 46, size := 45, inl := true, rows := r } : ABlk)) hrow⟩, by dsimp only; omega, AS.le_of rfl ⟨rfl, rfl, rfl, rfl, trivial⟩ (fun _ => rfl)⟩
end Go.Abs.Nz
namespace Go.Abs.Nz
open Go Go.Proofs Go.Abs
set_option maxRecDepth 100000
set_option maxHeartbeats 4000000
set_option linter.unusedSimpArgs false
set_option linter.unusedVariables false
attribute [local simp] instA
attribute [-simp] mkv
attribute [local simp] mkv_hd hdA_cons hdA_ob hdA_ob'
noncomputable def g1S (a m : Int) : SpecFn := mkS2 (fun n : Int => ([.int .i64 n, .ptr 0 0 0 0], [{ gen := 0, kind := 2, elem := 119, size := 2, inl := false, rows := [askC (a, m)] }])) fun n => (.bool (n == a), [{ gen := 0, kind := 2, elem := 119, size := 2, inl := false, rows := [askC (a, m)] }])
theorem g1S_eq (a m n : Int) : g1S a m [.int .i64 n, .ptr 0 0 0 0] [{ gen := 0, kind := 2, elem := 119, size := 2, inl := false, rows := [askC (a, m)] }] = some (.bool (n == a), [{ gen := 0, kind := 2, elem := 119, size := 2, inl := false, rows := [askC (a, m)] }]) :=
  mkS2_eq (enc := fun n : Int => ([AV.int .i64 n, .ptr 0 0 0 0], [{ gen := 0, kind := 2, elem := 119, size := 2, inl := false, rows := [askC (a, m)] }])) (res := fun n => (.bool (n == a), [{ gen := 0, kind := 2, elem := 119, size := 2, inl := false, rows := [askC (a, m)] }])) (fun x y h => by
    simp only [Prod.mk.injEq, List.cons.injEq, AV.int.injEq, true_and, and_true] at h
    rw [h]) n
theorem g1_ok (a m : Int) : FnC Tryz.prog 150 (g1S a m) := by
  refine FnC.walkB 150 (fn := Tryz.f150) Tryz.func150 rfl (by kernel_rfl) (fun x b hb => by simp at hb; rw [hb]) fun n => ?_
  change W _ (RetB _ _ 1 (.bool (n == a)) [{ gen := 0, kind := 2, elem := 119, size := 2, inl := false, rows := [[.int .i64 a, .int .i64 m]] }]) _ _ ⟨8, [(0, .int .i64 n), (1, .ptr 0 0 0 0)], [(0, { gen := 0, kind := 2, elem := 119, size := 2, inl := false, rows := [[.int .i64 a, .int .i64 m]] })]⟩
  repeat' (first | refine ZV ?_ | refine ZB tm no_specs ?_ | refine ZH (fun hb => ?_) (fun hb => ?_) | refine ZJ (by conv => lhs; simp) ?_ | refine ZA (fun hb => ?_) (fun hb => ?_))
  exact RetB.raw [0] rfl (by conv => lhs; simp) (by decide) (by simp) (by simp [renL]) (by simp)
noncomputable def g1V (a m : Int) : ixiW := ⟨150, by simp, by simp, fun n => n == a, 119, 2, askC (a, m), by simp [askC, refsL, AV.refs], by simp [askC, renL, AV.ren], g1S a m, g1_ok a m, g1S_eq a m⟩
def srt (l : List Int) : List Int := l.mergeSort fun x y => decide (x ≤ y)
noncomputable def sortS : SpecFn := mkS2 (fun l : {l : List Int // 0 < l.length ∧ l.length ≤ 9100} => ([.sl 0 0 0 l.1.length], [ixiB l.1])) fun l => (.tup [], [ixiB (srt l.1)])
theorem sortS_eq (l : List Int) (h0 : 0 < l.length) (h : l.length ≤ 9100) : sortS [.sl 0 0 0 l.length] [ixiB l] = some (.tup [], [ixiB (srt l)]) :=
  mkS2_eq (enc := fun l : {l : List Int // 0 < l.length ∧ l.length ≤ 9100} => ([AV.sl 0 0 0 l.1.length], [ixiB l.1])) (res := fun l => (.tup [], [ixiB (srt l.1)])) (fun x y h => by
    simp only [ixiB, Prod.mk.injEq, List.cons.injEq, ABlk.mk.injEq, true_and, and_true] at h
    rw [iC_inj h.2]) ⟨l, h0, h⟩
theorem sort_ok : FnC Tryz.prog 153 sortS := FnC.sortK .i64 3 srt (fun l => List.length_mergeSort l) Tryz.func153 (by kernel_rfl) (by kernel_rfl) fun blk off cap zs w h1 h2 h3 => Tryz.slices_Sort_int blk off cap zs w h1 h2 h3
theorem srt_perm (l : List Int) : (srt l).Perm l := List.mergeSort_perm _ _
theorem srt_le (l : List Int) : (srt l).Pairwise (· ≤ ·) := by
  have := List.pairwise_mergeSort (le := fun x y : Int => decide (x ≤ y)) (fun a b c h1 h2 => by simp only [decide_eq_true_eq] at *; omega) (fun a b => by simp only [Bool.or_eq_true, decide_eq_true_eq]; omega) l
  exact this.imp fun h => by simpa using h
theorem ins_perm (n : Int) : ∀ l : List Int, (Dir.ins n l).Perm (n :: l)
  | [] => .refl _
  | x :: r => by
    rw [Dir.ins]
    split
    · exact ((ins_perm n r).cons x).trans (.swap n x r)
    · exact .refl _
theorem srt_ins {l : List Int} {n : Int} (h : Dir.Asc l) (hn : n ∉ l) : srt (l ++ [n]) = Dir.ins n l := by
  refine List.Perm.eq_of_pairwise (le := (· ≤ ·)) (fun a b _ _ h1 h2 => by omega) (srt_le _) ((Dir.asc_ins h hn).imp fun h => by omega) ?_
  refine (srt_perm _).trans ?_
  refine List.Perm.trans ?_ (ins_perm n l).symm
  exact List.perm_append_comm
noncomputable def mgM (nd id : Int) : Dir.Mg Ob → Msg
  | .rev to => revM nd id to
  | .grant to m o => graM nd id to m o
structure Go where
  e : En
  nd : Int
  h1 : e.readers.length + e.queue.length ≤ 9000
  h2 : e.waiting.length ≤ 9000
  h3 : Dir.Asc e.readers
noncomputable def goM (e : En) (nd : Int) : List Msg := (Dir.goOn zOb e).1.map (mgM nd e.id)
noncomputable def goR (e : En) (nd : Int) : AV × List ABlk := (.tup [], [sesB (Dir.goOn zOb e).2 nd (.sl 1 0 0 (goM e nd).length), msgB 0 (goM e nd)])
noncomputable def goS : SpecFn := mkS2 (fun x : Go => ([.ptr 0 0 0 0], [sesB x.e x.nd .nils])) fun x => goR x.e x.nd
theorem goS_eq (x : Go) : goS [.ptr 0 0 0 0] [sesB x.e x.nd .nils] = some (goR x.e x.nd) :=
  mkS2_eq (enc := fun x : Go => ([AV.ptr 0 0 0 0], [sesB x.e x.nd .nils])) (res := fun x => goR x.e x.nd) (fun x y h => by
    simp only [sesB, Prod.mk.injEq, List.cons.injEq, ABlk.mk.injEq, true_and, and_true] at h
    obtain ⟨h1, h2, h3⟩ := sesC_inj h
    rw [h1, h2]) x
structure GoI (e0 : En) (nd : Int) where
  e : En
  ms : List Msg
  g : Nat
  RC : AV
  row : List AV
  h : NL ABlk
  id : e.id = e0.id
  h1 : e.readers.length + e.queue.length ≤ 9000
  h2 : e.waiting.length ≤ 9100
  h3 : Dir.Asc e.readers
  h4 : ms.length + e.queue.length ≤ 9000
  res : Dir.goOn zOb e0 = ((Dir.goOn zOb e0).1, (Dir.goOn zOb e).2)
  msg : goM e0 nd = ms ++ goM e nd
  hr : lk h 0 = some { gen := 0, kind := 2, elem := 117, size := 43, inl := false, rows := [row] }
  hn : nrmL Tryz.prog (leafs Tryz.prog 117) row = .int .u64 e.id :: .int .i64 e.owner :: RC :: (e.obj.cells ++ [.list 1 (e.waiting.map iC), .list 2 (e.queue.map askC), .int .i64 nd, .sl 20000 g 0 ms.length])
  hR : RC = .list 1 (e.readers.map iC) ∨ ∃ g', RC = .sl 528 g' 0 e.readers.length ∧ lk h 528 = some (ixiBg g' e.readers)
  hM : lk h 20000 = some (msgB g ms)
theorem sesLeafs : leafs Tryz.prog 117 = 26 :: 3 :: 82 :: (leafs Tryz.prog 44 ++ [82, 83, 3, 55]) := by rw [lf117, lf44]; rfl
theorem lfI : leafs Tryz.prog 3 = [3] := by kernel_rfl
theorem iC_nrm (x : Int) : nrmL Tryz.prog (leafs Tryz.prog 3) (iC x) = iC x := by simp [iC, nrmL, nrmV, lfI]
theorem askC_nrm (x : Int × Int) : nrmL Tryz.prog (leafs Tryz.prog 119) (askC x) = askC x := by simp [askC, nrmL, nrmV]
theorem uI : Tryz.prog.underlying 82 = some (.slice 3) := by kernel_rfl
theorem uA : Tryz.prog.underlying 83 = some (.slice 119) := by kernel_rfl
theorem cI : Tryz.prog.cellsOf 3 = 1 := by kernel_rfl
theorem ses_nrm (e : En) (nd : Int) (RC : AV) (g k : Nat) (hR : nrmV Tryz.prog 82 RC = RC) : nrmL Tryz.prog (leafs Tryz.prog 117) (.int .u64 e.id :: .int .i64 e.owner :: RC :: (e.obj.cells ++ [.list 1 (e.waiting.map iC), .list 2 (e.queue.map askC), .int .i64 nd, .sl 20000 g 0 k])) = .int .u64 e.id :: .int .i64 e.owner :: RC :: (e.obj.cells ++ [.list 1 (e.waiting.map iC), .list 2 (e.queue.map askC), .int .i64 nd, .sl 20000 g 0 k]) := by
  rw [sesLeafs]
  simp only [nrmL, hR]
  rw [nrmL_append _ _ _ _ e.obj.len'.symm, e.obj.nrmL]
  simp only [nrmL, nrmV, uI, uA, nrmRows_map iC_nrm, nrmRows_map askC_nrm]
theorem ses_nrm0 (id ow nd : Int) (wt : List Int) (q : List (Int × Int)) (g k : Nat) : nrmL Tryz.prog (leafs Tryz.prog 117) (.int .u64 id :: .int .i64 ow :: .nils :: (zO ++ [.list 1 (wt.map iC), .list 2 (q.map askC), .int .i64 nd, .sl 20000 g 0 k])) = .int .u64 id :: .int .i64 ow :: .list 1 ([].map iC) :: (zOb.cells ++ [.list 1 (wt.map iC), .list 2 (q.map askC), .int .i64 nd, .sl 20000 g 0 k]) := by
  rw [sesLeafs]
  simp only [nrmL]
  rw [nrmL_append _ _ _ _ (by rw [obLeafs]; rfl), zN_eq]
  simp only [nrmL, nrmV, uI, uA, nrmRows_map iC_nrm, nrmRows_map askC_nrm, cI, zOb, List.map_nil]
theorem rc_list (l : List Int) : nrmV Tryz.prog 82 (.list 1 (l.map iC)) = .list 1 (l.map iC) := by simp only [nrmV, uI, nrmRows_map iC_nrm]
theorem rc_sl (a b c d : Nat) : nrmV Tryz.prog 82 (.sl a b c d) = .sl a b c d := by simp only [nrmV]
theorem go_wait {e : En} (h : e.waiting ≠ []) : Dir.goOn zOb e = ([], e) := by rw [Dir.goOn, if_neg h]
theorem go_nil {e : En} (h : e.queue = []) : Dir.goOn zOb e = ([], e) := by
  obtain ⟨id, ow, rd, o, wt, q⟩ := e
  dsimp only at h
  subst h
  by_cases hw : wt = []
  · subst hw; rfl
  · rw [go_wait hw]
theorem go_own {e : En} {a m : Int} {q : List (Int × Int)} (hw : e.waiting = []) (hq : e.queue = (a, m) :: q) (ho : e.owner ≠ -1) : Dir.goOn zOb e = ([.rev e.owner], { e with waiting := [e.owner] }) := by
  rw [Dir.goOn, if_pos hw, hq, Dir.goQ, if_pos ho, ← hq]
theorem go_read {e : En} {a : Int} {q : List (Int × Int)} (hw : e.waiting = []) (hq : e.queue = (a, 1) :: q) (ho : e.owner = -1) : Dir.goOn zOb e = (.grant a 1 e.obj :: (Dir.goOn zOb { e with readers := Dir.ins a (Dir.oth e.readers a), queue := q }).1, (Dir.goOn zOb { e with readers := Dir.ins a (Dir.oth e.readers a), queue := q }).2) := by
  rw [Dir.goOn, if_pos hw, hq, Dir.goQ, if_neg (by simp [ho]), if_pos rfl]
  rw [Dir.goOn, if_pos hw]
theorem go_dem {e : En} {a m : Int} {q : List (Int × Int)} (hw : e.waiting = []) (hq : e.queue = (a, m) :: q) (ho : e.owner = -1) (hm : m ≠ 1) (hd : Dir.oth e.readers a ≠ []) : Dir.goOn zOb e = ((Dir.oth e.readers a).map .rev, { e with waiting := Dir.oth e.readers a }) := by
  rw [Dir.goOn, if_pos hw, hq, Dir.goQ, if_neg (by simp [ho]), if_neg hm, if_pos hd, ← hq]
theorem go_write {e : En} {a m : Int} {q : List (Int × Int)} (hw : e.waiting = []) (hq : e.queue = (a, m) :: q) (ho : e.owner = -1) (hm : m ≠ 1) (hd : Dir.oth e.readers a = []) : Dir.goOn zOb e = (.grant a m e.obj :: (Dir.goOn zOb { e with owner := a, readers := [], obj := zOb, queue := q }).1, (Dir.goOn zOb { e with owner := a, readers := [], obj := zOb, queue := q }).2) := by
  rw [Dir.goOn, if_pos hw, hq, Dir.goQ, if_neg (by simp [ho]), if_neg hm, if_neg (by simp [hd])]
  rw [Dir.goOn, if_pos hw]
end Go.Abs.Nz
