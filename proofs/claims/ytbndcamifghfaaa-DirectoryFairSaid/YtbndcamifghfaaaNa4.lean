/- A directory of one object and those who hold it. Conditions: none. -/
import Derived.Test.YtbndcamifghfaaaNa3
import Derived.Test.YtbndcamifghfaaaAb9
namespace Go.Abs.Dir
set_option linter.unusedSimpArgs false
set_option linter.unusedVariables false
variable {O : Type}
structure Hd where
  mode : Int → Int
  demand : Int → Bool
  asked : Int → Int
def N4 (n : Int) : Prop := 0 ≤ n ∧ n ≤ 3
def Asc (l : List Int) : Prop := l.Pairwise (· < ·)
/-- What holds whether or not somebody is waited for. -/
structure Pre (Pz : O → Prop) (z : O) (q : List (Int × Int)) (ow : Int) (rd : List Int) (ob : O) (h : Hd) : Prop where
  m2 : ∀ n, N4 n → (h.mode n = 2 ↔ ow = n)
  m1 : ∀ n, N4 n → (h.mode n = 1 ↔ n ∈ rd)
  m0 : ∀ n, N4 n → 0 ≤ h.mode n ∧ h.mode n ≤ 2
  owr : ow = -1 ∨ N4 ow
  rdr : ∀ n ∈ rd, N4 n
  asc : Asc rd
  one : ow ≠ -1 → rd = []
  obz : ow ≠ -1 → ob = z
  obp : Pz ob
  q1 : ∀ p ∈ q, N4 p.1 ∧ h.asked p.1 = p.2 ∧ (p.2 = 1 ∨ p.2 = 2) ∧ h.mode p.1 < p.2
  q2 : q.Pairwise (fun a b => a.1 ≠ b.1)
  q3 : ∀ n, N4 n → h.asked n ≠ 0 → ∃ p ∈ q, p.1 = n
/-- What holds between requests. -/
structure Inv (Pz : O → Prop) (z : O) (e : Ent O) (h : Hd) : Prop where
  pre : Pre Pz z e.queue e.owner e.readers e.obj h
  dem : ∀ n, N4 n → (h.demand n = true ↔ n ∈ e.waiting)
  wt : (e.waiting = [] ∧ e.queue = []) ∨ (e.waiting ≠ [] ∧ ∃ p q, e.queue = p :: q ∧ ((e.owner ≠ -1 ∧ e.waiting = [e.owner]) ∨ (e.owner = -1 ∧ p.2 = 2 ∧ e.waiting = oth e.readers p.1)))
theorem mem_oth {l : List Int} {n x : Int} : x ∈ oth l n ↔ x ∈ l ∧ x ≠ n := by simp [oth]
theorem oth_none {l : List Int} {n : Int} (h : n ∉ l) : oth l n = l := by
  rw [oth, List.filter_eq_self]
  intro x hx
  simp only [bne_iff_ne, ne_eq]
  rintro rfl
  exact h hx
theorem asc_oth {l : List Int} (h : Asc l) (n : Int) : Asc (oth l n) := List.Pairwise.filter _ h
theorem mem_ins {n x : Int} : ∀ {l : List Int}, x ∈ ins n l ↔ x = n ∨ x ∈ l
  | [] => by simp [ins]
  | y :: r => by
    rw [ins]
    split
    · rw [List.mem_cons, mem_ins (l := r), List.mem_cons]
      constructor
      · rintro (h | h | h) <;> simp [h]
      · rintro (h | h | h) <;> simp [h]
    · simp
theorem asc_ins {n : Int} : ∀ {l : List Int}, Asc l → n ∉ l → Asc (ins n l)
  | [], _, _ => by simp [ins, Asc]
  | y :: r, h, hn => by
    obtain ⟨h1, h2⟩ := List.pairwise_cons.1 h
    rw [ins]
    have hne : y ≠ n := fun e => hn (by simp [e])
    split
    · refine List.pairwise_cons.2 ⟨fun x hx => ?_, asc_ins h2 fun e => hn (by simp [e])⟩
      rcases mem_ins.1 hx with rfl | hx
      · assumption
      · exact h1 x hx
    · refine List.pairwise_cons.2 ⟨fun x hx => ?_, h⟩
      rcases List.mem_cons.1 hx with rfl | hx
      · omega
      · have := h1 x hx; omega
theorem N4_cases {n : Int} (h : N4 n) : n = 0 ∨ n = 1 ∨ n = 2 ∨ n = 3 := by unfold N4 at h; omega
/-! ### In the end every request is granted -/
/-- While tokens that are demanded are given back, node by node; 'L' is where that began. -/
def Live {O : Type} (L i : Nat) (e : Ent O) : Prop :=
  e.queue = [] ∨ e.queue.length + (i - L) / 4 + 1 ≤ 4 ∨ (e.queue.length + (i - L) / 4 ≤ 4 ∧ ∀ t, L + 4 * ((i - L) / 4) ≤ t → t < i → ((t % 4 : Nat) : Int) ∉ e.waiting)
theorem nodup_len : ∀ {l S : List Int}, l.Nodup → (∀ x ∈ l, x ∈ S) → l.length ≤ S.length
  | [], _, _, _ => Nat.zero_le _
  | x :: r, S, h, hs => by
    obtain ⟨h1, h2⟩ := List.pairwise_cons.1 h
    have hx := hs x (by simp)
    have h3 := nodup_len (l := r) (S := S.erase x) h2 (fun y hy => (List.mem_erase_of_ne (h1 y hy).symm).2 (hs y (by simp [hy])))
    rw [List.length_erase_of_mem hx] at h3
    have := List.length_pos_of_mem hx
    simp only [List.length_cons]
    omega
theorem Inv.q4 {Pz : O → Prop} {z : O} {e : Ent O} {h : Hd} (hi : Inv Pz z e h) : e.queue.length ≤ 4 := by
  have h1 : (e.queue.map (·.1)).Nodup := by
    rw [List.Nodup, List.pairwise_map]
    exact hi.pre.q2
  have h2 : ∀ x ∈ e.queue.map (·.1), x ∈ [(0 : Int), 1, 2, 3] := fun x hx => by
    obtain ⟨p, hp, rfl⟩ := List.mem_map.1 hx
    have := N4_cases (hi.pre.q1 p hp).1
    simpa using this
  have := nodup_len h1 h2
  simpa using this
end Go.Abs.Dir
namespace Go.Abs.Na
open Go Go.Proofs Go.Abs
set_option maxRecDepth 100000
set_option maxHeartbeats 4000000
set_option linter.unusedSimpArgs false
set_option linter.unusedVariables false
attribute [local simp] instA
def ixiF (p : Int → Bool) : Nat → List Int → Int
  | _, [] => -1
  | k, x :: r => if p x then (k : Int) else ixiF p (k + 1) r
theorem ixiF_drop {p : Int → Bool} {l : List Int} {k : Nat} {x : Int} (h : l[k]? = some x) : ixiF p k (l.drop k) = if p x then (k : Int) else ixiF p (k + 1) (l.drop (k + 1)) := by
  obtain ⟨hk, rfl⟩ := List.getElem?_eq_some_iff.1 h
  rw [List.drop_eq_getElem_cons hk, ixiF]
theorem ixiF_end {p : Int → Bool} {l : List Int} : ixiF p l.length (l.drop l.length) = -1 := by rw [List.drop_length]; rfl
theorem ixiF_any {p : Int → Bool} : ∀ {k : Nat} {l : List Int}, decide (0 ≤ ixiF p k l) = l.any p
  | k, [] => by simp [ixiF]
  | k, x :: r => by
    rw [ixiF, List.any_cons]
    cases hp : p x
    · simpa using ixiF_any (p := p) (k := k + 1) (l := r)
    · simp
/-- A function value, and the block that it holds. -/
structure ixiV where
  F : FuncId
  p : Int → Bool
  S : SpecFn
  ok : FnC Try.prog F S
  eq : ∀ x, S [.int .i64 x] [] = some (.bool (p x), [])
structure ixiW where
  F : FuncId
  ne : (F = 161) = False
  ne2 : (161 = F) = False
  p : Int → Bool
  E : Nat
  s : Nat
  row : List AV
  refs : refsL row = []
  ren : ∀ f, renL f row = row
  S : SpecFn
  ok : FnC Try.prog F S
  eq : ∀ x, S [.int .i64 x, .ptr 0 0 0 0] [{ gen := 0, kind := 2, elem := E, size := s, inl := false, rows := [row] }] = some (.bool (p x), [{ gen := 0, kind := 2, elem := E, size := s, inl := false, rows := [row] }])
def ixiW.b (v : ixiW) : ABlk := { gen := 0, kind := 2, elem := v.E, size := v.s, inl := false, rows := [v.row] }
def ixiB (l : List Int) : ABlk := { gen := 0, kind := 2, elem := 3, size := 1, inl := true, rows := l.map iC }
theorem ixiC_inj {l m : List Int} (h : l.map iC = m.map iC) : l = m := map_inj' (fun a b h => (by simpa [iC] using h)) h
noncomputable def ixi1 (v : ixiW) : SpecFn := mkS2 (fun l : {l : List Int // l.length ≤ 9100} => ([.list 1 (l.1.map iC), .fn (.func v.F) [] [.ptr 0 0 0 0]], [v.b])) fun l => (.int .i64 (ixiF v.p 0 l.1), [v.b])
theorem ixi1_eq (v : ixiW) (l : List Int) (h : l.length ≤ 9100) : ixi1 v [.list 1 (l.map iC), .fn (.func v.F) [] [.ptr 0 0 0 0]] [v.b] = some (.int .i64 (ixiF v.p 0 l), [v.b]) :=
  mkS2_eq (enc := fun l : {l : List Int // l.length ≤ 9100} => ([AV.list 1 (l.1.map iC), .fn (.func v.F) [] [.ptr 0 0 0 0]], [v.b])) (res := fun l => (AV.int .i64 (ixiF v.p 0 l.1), [v.b])) (fun x y h => by
    simp only [Prod.mk.injEq, List.cons.injEq, AV.list.injEq, true_and, and_true] at h
    rw [ixiC_inj h]) ⟨l, h⟩
noncomputable def ixi2 (v : ixiW) : SpecFn := mkS2 (fun l : {l : List Int // l.length ≤ 9100} => ([.sl 0 0 0 l.1.length, .fn (.func v.F) [] [.ptr 1 0 0 0]], [ixiB l.1, v.b])) fun l => (.int .i64 (ixiF v.p 0 l.1), [ixiB l.1, v.b])
theorem ixi2_eq (v : ixiW) (l : List Int) (h : l.length ≤ 9100) : ixi2 v [.sl 0 0 0 l.length, .fn (.func v.F) [] [.ptr 1 0 0 0]] [ixiB l, v.b] = some (.int .i64 (ixiF v.p 0 l), [ixiB l, v.b]) :=
  mkS2_eq (enc := fun l : {l : List Int // l.length ≤ 9100} => ([AV.sl 0 0 0 l.1.length, .fn (.func v.F) [] [.ptr 1 0 0 0]], [ixiB l.1, v.b])) (res := fun l => (AV.int .i64 (ixiF v.p 0 l.1), [ixiB l.1, v.b])) (fun x y h => by
    simp only [ixiB, Prod.mk.injEq, List.cons.injEq, ABlk.mk.injEq, true_and, and_true] at h
    rw [ixiC_inj h.2]) ⟨l, h⟩
theorem ixi1_ok (v : ixiW) : FnC Try.prog 161 (ixi1 v) := by
  obtain ⟨G, ne, ne2, p, E, s, row, rf, rn, S, ok, eq⟩ := v
  have sp : ∀ q ∈ ([(G, ⟨3, S⟩)] : NL Spec), FnC Try.prog q.1 q.2.fn := by
    simp only [List.mem_cons, List.not_mem_nil, or_false]
    rintro q rfl
    exact ok
  refine FnC.walkB 161 (fn := Try.f161) Try.func161 rfl (by kernel_rfl) (fun x b hb => by simp at hb; rw [hb]; rfl) fun x => ?_
  obtain ⟨l, hl⟩ := x
  obtain ⟨b, hB⟩ : ∃ b : ABlk, b = { gen := 0, kind := 2, elem := E, size := s, inl := false, rows := [row] } := ⟨_, rfl⟩
  change W _ (RetB _ _ 1 (.int .i64 (ixiF p 0 l)) [{ gen := 0, kind := 2, elem := E, size := s, inl := false, rows := [row] }]) _ _ ⟨19, [(0, .list 1 (l.map iC)), (1, .fn (.func G) [] [.ptr 0 0 0 0])], [(0, { gen := 0, kind := 2, elem := E, size := s, inl := false, rows := [row] })]⟩
  have cap : l.length ≤ 9223372036854775807 := by omega
  repeat' (first | refine ZV ?_ | refine ZB tm sp ?_ | refine ZH (fun hb => ?_) (fun hb => ?_) | refine ZJ (by conv => lhs; simp [cap]) ?_ | refine ZA (fun hb => ?_) (fun hb => ?_))
  refine W.loop rfl (ι := { q : Nat × NL ABlk // q.1 ≤ l.length ∧ ixiF p 0 l = ixiF p q.1 (l.drop q.1) ∧ lk q.2 0 = some { gen := 0, kind := 2, elem := E, size := s, inl := false, rows := [row] } })
    (fun q => ⟨19, [(0, .list 1 (l.map iC)), (1, .fn (.func G) [] [.ptr 0 0 0 0]), (7, .int .i64 l.length), (8, .int .i64 (q.1.1 : Nat))], q.1.2⟩) (fun q => l.length - q.1.1)
    ⟨(0, _), by simp, rfl, rfl⟩ (AS.le_of rfl ⟨rfl, rfl, rfl, rfl, trivial⟩ (fun _ => rfl)) ?_
  rintro ⟨⟨k, h⟩, hk, hf, h1⟩
  dsimp only at hk hf h1 ⊢
  by_cases hk2 : k = l.length
  · subst hk2
    rw [ixiF_end] at hf
    rw [hf]
    repeat' (first | refine ZV ?_ | refine ZB tm sp ?_ | refine ZH (fun hb => ?_) (fun hb => ?_) | refine ZJ (by conv => lhs; simp) ?_ | refine ZA (fun hb => ?_) (fun hb => ?_))
    exact RetB.raw [0] rfl (by conv => lhs; simp) (by decide) (by simp [h1]) (by simp [h1, rn]) (by simp)
  · have hlt : k < l.length := by omega
    obtain ⟨m, hr⟩ := get_lt hlt
    have hm : (l.map iC)[k]? = some (iC m) := by rw [List.getElem?_map, hr]; rfl
    have q1 : (k : Int) < l.length := by omega
    have q2 : ¬ l.length ≤ k := by omega
    have hw : IntKind.i64.wrap ((k : Int) + 1) = ((k + 1 : Nat) : Int) := w64 (by omega) (by omega)
    rw [ixiF_drop hr] at hf
    have cf := eq m
    clear hlt hk2
    skip
    cases ho : p m with
    | true =>
      rw [if_pos ho] at hf
      rw [hf]
      rw [ho] at cf
      repeat' (first | refine ZV ?_ | refine ZB tm sp ?_ | refine ZH (fun hb => ?_) (fun hb => ?_) | refine ZJ (by conv => lhs; simp [q1, q2, hm, cf, h1, rf, rn, iC]) ?_ | refine ZA (fun hb => ?_) (fun hb => ?_))
      exact RetB.raw [0] rfl (by conv => lhs; simp) (by decide) (by simp) (by simp [rn]) (by simp)
    | false =>
      rw [if_neg (by simp [ho])] at hf
      rw [ho] at cf
      repeat' (first | refine ZV ?_ | refine ZB tm sp ?_ | refine ZH (fun hb => ?_) (fun hb => ?_) | refine ZJ (by conv => lhs; simp [q1, q2, hm, cf, hw, h1, rf, rn, iC]) ?_ | refine ZA (fun hb => ?_) (fun hb => ?_))
      exact ⟨⟨(k + 1, _), by dsimp only; omega, hf, by simp [lk_st]⟩, by dsimp only; omega, AS.le_of rfl ⟨rfl, rfl, rfl, rfl, trivial⟩ (fun _ => rfl)⟩
theorem ixi2_ok (v : ixiW) : FnC Try.prog 161 (ixi2 v) := by
  obtain ⟨G, ne, ne2, p, E, s, row, rf, rn, S, ok, eq⟩ := v
  have sp : ∀ q ∈ ([(G, ⟨3, S⟩)] : NL Spec), FnC Try.prog q.1 q.2.fn := by
    simp only [List.mem_cons, List.not_mem_nil, or_false]
    rintro q rfl
    exact ok
  refine FnC.walkB 161 (fn := Try.f161) Try.func161 rfl (by kernel_rfl) (fun x b hb => by simp at hb; rcases hb with rfl | rfl <;> rfl) fun x => ?_
  obtain ⟨l, hl⟩ := x
  change W _ (RetB _ _ 2 (.int .i64 (ixiF p 0 l)) [ixiB l, { gen := 0, kind := 2, elem := E, size := s, inl := false, rows := [row] }]) _ _ ⟨19, [(0, .sl 0 0 0 l.length), (1, .fn (.func G) [] [.ptr 1 0 0 0])], [(0, ixiB l), (1, { gen := 0, kind := 2, elem := E, size := s, inl := false, rows := [row] })]⟩
  have cap : l.length ≤ 9223372036854775807 := by omega
  repeat' (first | refine ZV ?_ | refine ZB tm sp ?_ | refine ZH (fun hb => ?_) (fun hb => ?_) | refine ZJ (by conv => lhs; simp [cap, ixiB]) ?_ | refine ZA (fun hb => ?_) (fun hb => ?_))
  refine W.loop rfl (ι := { q : Nat × NL ABlk // q.1 ≤ l.length ∧ ixiF p 0 l = ixiF p q.1 (l.drop q.1) ∧ lk q.2 0 = some (ixiB l) ∧ lk q.2 1 = some { gen := 0, kind := 2, elem := E, size := s, inl := false, rows := [row] } })
    (fun q => ⟨19, [(0, .sl 0 0 0 l.length), (1, .fn (.func G) [] [.ptr 1 0 0 0]), (7, .int .i64 l.length), (8, .int .i64 (q.1.1 : Nat))], q.1.2⟩) (fun q => l.length - q.1.1)
    ⟨(0, _), by simp, rfl, rfl, rfl⟩ (AS.le_of rfl ⟨rfl, rfl, rfl, rfl, trivial⟩ (fun _ => rfl)) ?_
  rintro ⟨⟨k, h⟩, hk, hf, h0, h1⟩
  dsimp only at hk hf h0 h1 ⊢
  by_cases hk2 : k = l.length
  · subst hk2
    rw [ixiF_end] at hf
    rw [hf]
    repeat' (first | refine ZV ?_ | refine ZB tm sp ?_ | refine ZH (fun hb => ?_) (fun hb => ?_) | refine ZJ (by conv => lhs; simp) ?_ | refine ZA (fun hb => ?_) (fun hb => ?_))
    exact RetB.raw [0, 1] rfl (by conv => lhs; simp) (by decide) (by intro i hi; rcases (show i = 0 ∨ i = 1 by omega) with rfl | rfl <;> simp [h0, h1, ixiB]) (by simp [h0, h1, rn, ixiB]) (by simp)
  · have hlt : k < l.length := by omega
    obtain ⟨m, hr⟩ := get_lt hlt
    have hm : (l.map iC)[k]? = some (iC m) := by rw [List.getElem?_map, hr]; rfl
    have q1 : (k : Int) < l.length := by omega
    have q2 : ¬ l.length ≤ k := by omega
    have hw : IntKind.i64.wrap ((k : Int) + 1) = ((k + 1 : Nat) : Int) := w64 (by omega) (by omega)
    rw [ixiF_drop hr] at hf
    have cf := eq m
    clear hlt hk2
    skip
    have h0' := h0
    unfold ixiB at h0
    cases ho : p m with
    | true =>
      rw [if_pos ho] at hf
      rw [hf]
      rw [ho] at cf
      repeat' (first | refine ZV ?_ | refine ZB tm sp ?_ | refine ZH (fun hb => ?_) (fun hb => ?_) | refine ZJ (by conv => lhs; simp [q1, q2, hm, cf, h0, h1, rf, rn, iC]) ?_ | refine ZA (fun hb => ?_) (fun hb => ?_))
      exact RetB.raw [0, 1] rfl (by conv => lhs; simp) (by decide) (by intro i hi; rcases (show i = 0 ∨ i = 1 by omega) with rfl | rfl <;> simp [h0, lk_st]) (by simp [h0, rn, lk_st, ixiB]) (by simp)
    | false =>
      rw [if_neg (by simp [ho])] at hf
      rw [ho] at cf
      repeat' (first | refine ZV ?_ | refine ZB tm sp ?_ | refine ZH (fun hb => ?_) (fun hb => ?_) | refine ZJ (by conv => lhs; simp [q1, q2, hm, cf, hw, h0, h1, rf, rn, iC]) ?_ | refine ZA (fun hb => ?_) (fun hb => ?_))
      exact ⟨⟨(k + 1, _), by dsimp only; omega, hf, by simp [lk_st, h0'], by simp [lk_st]⟩, by dsimp only; omega, AS.le_of rfl ⟨rfl, rfl, rfl, rfl, trivial⟩ (fun _ => rfl)⟩
end Go.Abs.Na
namespace Go.Abs.Na
open Go Go.Proofs Go.Abs
set_option maxRecDepth 100000
set_option maxHeartbeats 4000000
set_option linter.unusedSimpArgs false
set_option linter.unusedVariables false
attribute [local simp] instA
/-! ### Without them -/
theorem ixiF_spec {p : Int → Bool} : ∀ (l : List Int) (k : Nat), (ixiF p k l = -1 ∧ l.any p = false) ∨ ∃ i x, ixiF p k l = ((k + i : Nat) : Int) ∧ l[i]? = some x ∧ p x = true ∧ (l.take i).filter (fun x => !p x) = l.take i
  | [], k => .inl ⟨rfl, rfl⟩
  | x :: r, k => by
    rw [ixiF]
    cases hp : p x with
    | true => exact .inr ⟨0, x, by simp, rfl, hp, by simp⟩
    | false =>
      rcases ixiF_spec (p := p) r (k + 1) with ⟨h1, h2⟩ | ⟨i, y, h1, h2, h3, h4⟩
      · exact .inl ⟨by simpa using h1, by simp [hp, h2]⟩
      · refine .inr ⟨i + 1, y, ?_, by simpa using h2, h3, ?_⟩
        · rw [if_neg (by simp), h1]
          congr 1
          omega
        · rw [List.take_succ_cons, List.filter_cons, if_pos (by simp [hp]), h4]
def fil (p : Int → Bool) (l : List Int) : List Int := l.filter fun x => !p x
def midD (p : Int → Bool) (l : List Int) (j : Nat) : List Int := fil p (l.take j) ++ l.drop (fil p (l.take j)).length
theorem fil_le (p : Int → Bool) (l : List Int) : (fil p l).length ≤ l.length := List.length_filter_le _ _
theorem fil_take (p : Int → Bool) (l : List Int) (j : Nat) : (fil p (l.take j)).length ≤ j := Nat.le_trans (fil_le _ _) (by simp; omega)
theorem fil_step {p : Int → Bool} {l : List Int} {j : Nat} {x : Int} (h : l[j]? = some x) : fil p (l.take (j + 1)) = if p x then fil p (l.take j) else fil p (l.take j) ++ [x] := by
  rw [fil, List.take_add_one, h, Option.toList_some, List.filter_append]
  cases hp : p x <;> simp [hp, fil]
theorem midD_len (p : Int → Bool) (l : List Int) (j : Nat) : (midD p l j).length = l.length := by
  have h1 := fil_take p l j
  have h2 : (fil p (l.take j)).length ≤ l.length := Nat.le_trans (fil_le _ _) (by simp; omega)
  simp [midD]; omega
theorem midD_get {p : Int → Bool} {l : List Int} {j : Nat} {x : Int} (h : l[j]? = some x) : (midD p l j)[j]? = some x := by
  have h1 := fil_take p l j
  rw [midD, List.getElem?_append_right h1, List.getElem?_drop, show (fil p (l.take j)).length + (j - (fil p (l.take j)).length) = j by omega, h]
theorem midD_set {p : Int → Bool} {l : List Int} {j : Nat} {x : Int} (h : l[j]? = some x) (hp : p x = false) : (midD p l j).set (fil p (l.take j)).length x = midD p l (j + 1) := by
  have h1 := fil_take p l j
  have hj := (List.getElem?_eq_some_iff.1 h).1
  rw [midD, midD, fil_step h, hp]
  simp only [Bool.false_eq_true, if_false, List.length_append, List.length_singleton]
  rw [List.set_append_right _ _ (Nat.le_refl _), Nat.sub_self, List.append_assoc]
  congr 1
  rw [List.drop_eq_getElem_cons (show (fil p (l.take j)).length < l.length by omega)]
  rfl
theorem midD_skip {p : Int → Bool} {l : List Int} {j : Nat} {x : Int} (h : l[j]? = some x) (hp : p x = true) : midD p l (j + 1) = midD p l j := by
  rw [midD, midD, fil_step h, hp]
  rfl
def ixiBg (g : Nat) (l : List Int) : ABlk := { gen := g, kind := 2, elem := 3, size := 1, inl := true, rows := l.map iC }
noncomputable def dli (v : ixiW) : SpecFn := mkS2 (fun l : {l : List Int // l.length ≤ 9100} => ([.sl 0 0 0 l.1.length, .fn (.func v.F) [] [.ptr 1 0 0 0]], [ixiB l.1, v.b])) fun l => (.sl 0 1 0 (fil v.p l.1).length, [ixiBg 1 (fil v.p l.1), v.b])
theorem dli_eq (v : ixiW) (l : List Int) (h : l.length ≤ 9100) : dli v [.sl 0 0 0 l.length, .fn (.func v.F) [] [.ptr 1 0 0 0]] [ixiB l, v.b] = some (.sl 0 1 0 (fil v.p l).length, [ixiBg 1 (fil v.p l), v.b]) :=
  mkS2_eq (enc := fun l : {l : List Int // l.length ≤ 9100} => ([AV.sl 0 0 0 l.1.length, .fn (.func v.F) [] [.ptr 1 0 0 0]], [ixiB l.1, v.b])) (res := fun l => (.sl 0 1 0 (fil v.p l.1).length, [ixiBg 1 (fil v.p l.1), v.b])) (fun x y h => by
    simp only [ixiB, Prod.mk.injEq, List.cons.injEq, ABlk.mk.injEq, true_and, and_true] at h
    rw [ixiC_inj h.2]) ⟨l, h⟩
theorem dli_ok (v : ixiW) : FnC Try.prog 112 (dli v) := by
  obtain ⟨G, ne, ne2, p, E, s, row, rf, rn, S, ok, eq⟩ := v
  have sp : ∀ q ∈ ([(161, ⟨3, ixi2 ⟨G, ne, ne2, p, E, s, row, rf, rn, S, ok, eq⟩⟩), (G, ⟨3, S⟩)] : NL Spec), FnC Try.prog q.1 q.2.fn := by
    simp only [List.mem_cons, List.not_mem_nil, or_false]
    rintro q (rfl | rfl)
    · exact ixi2_ok _
    · exact ok
  refine FnC.walkM 112 (fn := Try.f112) Try.func112 rfl (by kernel_rfl) (fun x b hb => by simp at hb; rcases hb with rfl | rfl <;> rfl) fun x => ?_
  obtain ⟨l, hl⟩ := x
  have cf := ixi2_eq ⟨G, ne, ne2, p, E, s, row, rf, rn, S, ok, eq⟩ l hl
  simp only [ixiW.b, ixiB] at cf
  change W _ (RetM _ _ 2 (.sl 0 1 0 (fil p l).length) [ixiBg 1 (fil p l), { gen := 0, kind := 2, elem := E, size := s, inl := false, rows := [row] }]) _ _ ⟨42, [(0, .sl 0 0 0 l.length), (1, .fn (.func G) [] [.ptr 1 0 0 0])], [(0, { gen := 0, kind := 2, elem := 3, size := 1, inl := true, rows := l.map iC }), (1, { gen := 0, kind := 2, elem := E, size := s, inl := false, rows := [row] })]⟩
  have cap : l.length ≤ 9223372036854775807 := by omega
  rcases ixiF_spec (p := p) l 0 with ⟨h1, h2⟩ | ⟨i, x, h1, h2, h3, h4⟩
  · rw [h1] at cf
    have e : fil p l = l := by
      rw [fil, List.filter_eq_self]
      intro a ha
      have := List.any_eq_false.1 h2 a ha
      simpa using this
    rw [e]
    repeat' (first | refine ZV ?_ | refine ZB tm sp ?_ | refine ZH (fun hb => ?_) (fun hb => ?_) | refine ZJ (by conv => lhs; simp [cf, rf, rn, cap]) ?_ | refine ZA (fun hb => ?_) (fun hb => ?_))
    refine retM2_ok false [0, 1] [1, 0] ?_
    simp [retM2, movedOK, oldOK, frqT, frqV, frqVs, frqL, frq1, expG, expB3, renB, AV.ren, renL, List.range, List.range.loop, resVs, resV, pack, List.zipWith, List.idxOf?, List.findIdx?, List.findIdx?.go, ixiBg, rn]
  · simp only [Nat.zero_add] at h1
    rw [h1] at cf
    have hi := (List.getElem?_eq_some_iff.1 h2).1
    have hw0 : IntKind.i64.wrap ((i : Int) + 1) = ((i + 1 : Nat) : Int) := w64 (by omega) (by omega)
    have n0 : ((i : Int) == -1) = false := by simp
    have n1 : (0 : Int) ≤ (i : Int) := by omega
    have m0 : midD p l (i + 1) = l := by
      rw [midD, fil_step h2, h3, if_pos rfl, fil, h4, List.length_take, Nat.min_eq_left (by omega), List.take_append_drop]
    have f0 : (fil p (l.take (i + 1))).length = i := by
      rw [fil_step h2, h3, if_pos rfl, fil, h4, List.length_take, Nat.min_eq_left (by omega)]
    repeat' (first | refine ZV ?_ | refine ZB tm sp ?_ | refine ZH (fun hb => ?_) (fun hb => ?_) | refine ZJ (by conv => lhs; simp [cf, rf, rn, cap, hw0, n0, n1]) ?_ | refine ZA (fun hb => ?_) (fun hb => ?_))
    refine W.loop rfl (ι := { q : Nat × NL ABlk // q.1 ≤ l.length ∧ lk q.2 0 = some { gen := 0, kind := 2, elem := 3, size := 1, inl := true, rows := (midD p l q.1).map iC } ∧ lk q.2 1 = some { gen := 0, kind := 2, elem := E, size := s, inl := false, rows := [row] } })
      (fun q => ⟨42, [(0, .sl 0 0 0 l.length), (1, .fn (.func G) [] [.ptr 1 0 0 0]), (5, .int .i64 ((fil p (l.take q.1.1)).length : Nat)), (6, .int .i64 (q.1.1 : Nat))], q.1.2⟩) (fun q => l.length - q.1.1)
      ⟨(i + 1, _), by dsimp only; omega, by dsimp only; rw [m0]; simp [lk_st], by simp [lk_st]⟩ (AS.le_of rfl ⟨rfl, rfl, by rw [f0]; rfl, rfl, trivial⟩ (fun _ => rfl)) ?_
    clear cf n0 n1 hw0 m0 f0 h1 h4
    rintro ⟨⟨j, h⟩, hj, g0, g1⟩
    dsimp only at hj g0 g1 ⊢
    have hml := midD_len p l j
    have hft := fil_take p l j
    obtain ⟨n, hn⟩ : ∃ n, (fil p (l.take j)).length = n := ⟨_, rfl⟩
    by_cases hj2 : j = l.length
    · subst hj2
      rw [List.take_length] at hn hft ⊢
      have hR : (midD p l l.length).take n = fil p l := by
        rw [midD, List.take_length, List.take_append, hn, Nat.sub_self, List.take_zero, List.append_nil, List.take_of_length_le (by omega)]
      rw [hn] at hft ⊢
      generalize midD p l l.length = R at *
      have k1 : n ≤ R.length := by omega
      have k2 : R.length ≤ 9223372036854775807 := by omega
      repeat (first | refine ZU ?_ | refine ZK tm sp rfl (by conv => lhs; simp [g0, g1, cap, hft, k1, k2, hml, maxLen]) fun _ => ?_ | refine ZL tm sp rfl (by conv => lhs; simp [g0, g1, cap, hft, k1, k2, hml, maxLen]) fun _ => ?_)
      refine W.shrink (t := 4) (id := 0) (g := 0) (k := n) (by rfl) (by simp [lk_st]; rfl) rfl rfl ?_
      try refine ZT ?_
      have e1 : List.take n (List.take n (List.map iC R) ++ (List.replicate (l.length - n) [AV.int IntKind.i64 0] ++ List.drop l.length (List.map iC R))) = (fil p l).map iC := by
        rw [List.take_append, List.length_take, List.length_map, Nat.min_eq_left k1, Nat.sub_self, List.take_zero, List.append_nil, List.take_take, Nat.min_self, ← List.map_take, hR]
      refine retM2_ok false [0, 1] [1, 0] ?_
      simp [retM2, movedOK, oldOK, frqT, frqV, frqVs, frqL, frq1, expG, expB3, renB, AV.ren, renL, List.range, List.range.loop, resVs, resV, pack, List.zipWith, List.idxOf?, List.findIdx?, List.findIdx?.go, ixiBg, rn, lk_st, g1, hn]
      exact e1
    · have hlt : j < l.length := by omega
      obtain ⟨m, hr⟩ := get_lt hlt
      have hm : ((midD p l j).map iC)[j]? = some (iC m) := by rw [List.getElem?_map, midD_get hr]; rfl
      have cf := eq m
      have hsk := midD_skip (p := p) hr
      have hst := midD_set (p := p) hr
      have fst := fil_step (p := p) hr
      rw [hn] at hst hft ⊢
      have q1 : (j : Int) < l.length := by omega
      have q2 : ¬ l.length ≤ j := by omega
      have q3 : (n : Int) < l.length := by omega
      have q4 : ¬ l.length ≤ n := by omega
      have hw : IntKind.i64.wrap ((j : Int) + 1) = ((j + 1 : Nat) : Int) := w64 (by omega) (by omega)
      have hw2 : IntKind.i64.wrap ((n : Int) + 1) = ((n + 1 : Nat) : Int) := w64 (by omega) (by omega)
      generalize hR : midD p l j = R at *
      clear hlt hj2
      cases ho : p m with
      | true =>
        rw [ho] at cf
        rw [ho, if_pos rfl] at fst
        have hsk := hsk ho
        repeat' (first | refine ZV ?_ | refine ZB tm sp ?_ | refine ZH (fun hb => ?_) (fun hb => ?_) | refine ZJ (by conv => lhs; simp [g0, g1, cap, q1, q2, hm, cf, hw, rf, rn, iC, hml, ne, ne2]) ?_ | refine ZA (fun hb => ?_) (fun hb => ?_))
        exact ⟨⟨(j + 1, _), by dsimp only; omega, by dsimp only; rw [hsk]; simp [lk_st, g0], by simp [lk_st]⟩, by dsimp only; omega, AS.le_of rfl ⟨rfl, rfl, by simp [lk, fst, hn], rfl, trivial⟩ (fun _ => rfl)⟩
      | false =>
        rw [ho] at cf
        rw [ho, if_neg (by simp)] at fst
        have hst := hst ho
        obtain ⟨y, hy⟩ := get_lt (l := R) (i := n) (by omega)
        have hy2 : (R.map iC)[n]? = some (iC y) := by rw [List.getElem?_map, hy]; rfl
        have hst2 : (R.map iC).set n [AV.int .i64 m] = (midD p l (j + 1)).map iC := by rw [← hst, List.map_set]; rfl
        repeat' (first | refine ZV ?_ | refine ZB tm sp ?_ | refine ZH (fun hb => ?_) (fun hb => ?_) | refine ZJ (by conv => lhs; simp [g0, g1, cap, q1, q2, q3, q4, hm, cf, hw, hw2, rf, rn, iC, hml, hst2, ne, ne2, hy2]) ?_ | refine ZA (fun hb => ?_) (fun hb => ?_))
        exact ⟨⟨(j + 1, _), by dsimp only; omega, by simp [lk_st], by simp [lk_st]⟩, by dsimp only; omega, AS.le_of rfl ⟨rfl, rfl, by simp [lk, fst, hn], rfl, trivial⟩ (fun _ => rfl)⟩
end Go.Abs.Na
namespace Go.Abs.Na
open Go Go.Proofs Go.Abs
set_option maxRecDepth 100000
set_option maxHeartbeats 4000000
set_option linter.unusedSimpArgs false
set_option linter.unusedVariables false
abbrev En := Dir.Ent Ob
def askC (p : Int × Int) : List AV := [.int .i64 p.1, .int .i64 p.2]
@[simp] def enC (e : En) : List AV := .int .u64 e.id :: .int .i64 e.owner :: .list 1 (e.readers.map iC) :: (e.obj.cells ++ [.list 1 (e.waiting.map iC), .list 2 (e.queue.map askC)])
theorem iC_inj {l m : List Int} (h : l.map iC = m.map iC) : l = m := map_inj' (fun a b h => by simpa [iC] using h) h
theorem askC_inj {l m : List (Int × Int)} (h : l.map askC = m.map askC) : l = m := map_inj' (fun a b h => by
  obtain ⟨a, b⟩ := a
  simpa [askC, Prod.ext_iff] using h) h
theorem enC_inj {s t : En} (h : enC s = enC t) : s = t := by
  obtain ⟨a, b, r, o, w, q⟩ := s
  obtain ⟨a', b', r', o', w', q'⟩ := t
  simp only [enC, List.cons.injEq, AV.int.injEq, AV.list.injEq, true_and] at h
  obtain ⟨rfl, rfl, h0, h⟩ := h
  obtain ⟨h1, h2⟩ := List.append_inj h (by simp)
  simp only [List.cons.injEq, AV.list.injEq, true_and, and_true] at h2
  cases iC_inj h0
  cases iC_inj h2.1
  cases askC_inj h2.2
  rw [Td.ext h1]
theorem enCs_inj {l m : List En} (h : l.map enC = m.map enC) : l = m := map_inj' (fun a b h => enC_inj h) h
def okE (e : En) : Prop := e.readers.length ≤ 9000 ∧ e.waiting.length ≤ 9000 ∧ e.queue.length ≤ 8000
/-- The entries of a home, not too many. -/
structure Drs where
  node : Int
  ents : List En
  bd : ents.length ≤ 9000
  bde : ∀ e ∈ ents, okE e
def Drs.v (d : Drs) : AV := .agg [.int .i64 d.node, .list 41 (d.ents.map enC)]
theorem Drs.v_inj {s t : Drs} (h : s.v = t.v) : s = t := by
  obtain ⟨a, l, b, c⟩ := s
  obtain ⟨a', l', b', c'⟩ := t
  simp only [Drs.v, AV.agg.injEq, List.cons.injEq, AV.int.injEq, AV.list.injEq, true_and, and_true] at h
  obtain ⟨rfl, h⟩ := h
  cases enCs_inj h
  rfl
noncomputable def enS (f : En → Bool) : SpecFn := mkS (fun d : {e : En // okE e} => [.agg (enC d.1)]) fun d => (.bool (f d.1), [])
theorem enS_eq (f : En → Bool) (e : En) (h : okE e) : enS f [.agg (enC e)] [] = some (.bool (f e), []) :=
  mkS_eq (enc := fun d : {e : En // okE e} => [AV.agg (enC d.1)]) (res := fun d => (.bool (f d.1), [])) (fun x y h => by
    simp only [List.cons.injEq, AV.agg.injEq, and_true] at h
    rw [enC_inj h]) ⟨e, h⟩
attribute [local simp] instA
theorem nod_ok : FnC Try.prog 103 (boS okN) := by
  refine FnC.walk 103 (fn := Try.f103) Try.func103 rfl (by kernel_rfl) fun m => ?_
  change W _ (Ret _ _ (.bool (okN m)) []) _ _ ⟨9, [(0, .int .i64 m)], []⟩
  repeat' (first | refine ZV ?_ | refine ZB tm no_specs ?_ | refine ZH (fun hb => ?_) (fun hb => ?_) | refine ZJ (by conv => lhs; simp) ?_ | refine ZA (fun hb => ?_) (fun hb => ?_))
  all_goals (first | refine Ret.dataE rfl (by conv => lhs; simp) (by conv => lhs; simp) (by first | rfl | simp [inlT, inlV]) ?_ | refine RetNf.dataE rfl (by conv => lhs; simp) (by conv => lhs; simp) (by first | rfl | simp [inlT, inlV]) ?_)
  all_goals (first | rfl | (simp [okN]; done) | (simp_all [okN]; done) | (simp_all [okN]; omega))
theorem mod_ok : FnC Try.prog 104 (boS okM) := by
  refine FnC.walk 104 (fn := Try.f104) Try.func104 rfl (by kernel_rfl) fun m => ?_
  change W _ (Ret _ _ (.bool (okM m)) []) _ _ ⟨9, [(0, .int .i64 m)], []⟩
  repeat' (first | refine ZV ?_ | refine ZB tm no_specs ?_ | refine ZH (fun hb => ?_) (fun hb => ?_) | refine ZJ (by conv => lhs; simp) ?_ | refine ZA (fun hb => ?_) (fun hb => ?_))
  all_goals (first | refine Ret.dataE rfl (by conv => lhs; simp) (by conv => lhs; simp) (by first | rfl | simp [inlT, inlV]) ?_ | refine RetNf.dataE rfl (by conv => lhs; simp) (by conv => lhs; simp) (by first | rfl | simp [inlT, inlV]) ?_)
  all_goals (first | rfl | (simp [okM]; done) | (simp_all [okM]; done) | (simp_all [okM]; omega))
attribute [-simp] mkv
attribute [local simp] mkv_hd hdA_cons hdA_ob hdA_ob'
noncomputable def abs_specs : NL Spec := [(158, ⟨1, zeS⟩)]
theorem abs_specs_ok : ∀ p ∈ abs_specs, FnC Try.prog p.1 p.2.fn := by
  simp only [abs_specs, List.mem_cons, List.not_mem_nil, or_false]
  rintro p rfl
  exact zep_ok
attribute [local simp] abs_specs
theorem abs_ok : FnC Try.prog 177 zeS := by
  refine FnC.walk 177 (fn := Try.f177) Try.func177 rfl (by kernel_rfl) fun o => ?_
  have c3 := zeS_eq o
  change W _ (Ret _ _ (.bool (zO? o)) []) _ _ ⟨5, [(0, .agg o.cells)], []⟩
  repeat' (first | refine ZV ?_ | refine ZB tm abs_specs_ok ?_ | refine ZH (fun hb => ?_) (fun hb => ?_) | refine ZJ (by conv => lhs; simp [c3]) ?_ | refine ZA (fun hb => ?_) (fun hb => ?_))
  all_goals (first | refine Ret.dataE rfl (by conv => lhs; simp) (by conv => lhs; simp) (by first | rfl | simp [inlT, inlV]) ?_ | refine RetNf.dataE rfl (by conv => lhs; simp) (by conv => lhs; simp) (by first | rfl | simp [inlT, inlV]) ?_)
  all_goals (first | rfl | (simp; done) | (simp_all; done) | (simp_all; omega))
noncomputable def fit2_specs : NL Spec := [(177, ⟨1, zeS⟩)]
theorem fit2_specs_ok : ∀ p ∈ fit2_specs, FnC Try.prog p.1 p.2.fn := by
  simp only [fit2_specs, List.mem_cons, List.not_mem_nil, or_false]
  rintro p rfl
  exact abs_ok
attribute [local simp] fit2_specs
theorem fit2_ok : FnC Try.prog 111 fitS := by
  refine FnC.walk 111 (fn := Try.f111) Try.func111 rfl (by kernel_rfl) fun d => ?_
  obtain ⟨o, id⟩ := d
  have c3 := zeS_eq o
  change W _ (Ret _ _ (.bool (oid o == id || zO? o)) []) _ _ ⟨13, [(0, .agg o.cells), (1, .int .u64 id)], []⟩
  generalize zO? o = z at *
  generalize hoi : oid o = oi at *
  repeat' (first | refine ZV ?_ | refine ZB tm fit2_specs_ok ?_ | refine ZH (fun hb => ?_) (fun hb => ?_) | refine ZJ (by conv => lhs; simp [c3, hoi]) ?_ | refine ZA (fun hb => ?_) (fun hb => ?_))
  all_goals (first | refine Ret.dataE rfl (by conv => lhs; simp) (by conv => lhs; simp) (by first | rfl | simp [inlT, inlV]) ?_ | refine RetNf.dataE rfl (by conv => lhs; simp) (by conv => lhs; simp) (by first | rfl | simp [inlT, inlV]) ?_)
  all_goals (first | rfl | (simp; done) | (simp_all; done) | (simp_all; omega))
/-! ### Ascending nodes -/
def goodN (l : List Int) (j : Nat) : Bool := match l[j]? with
  | none => true
  | some t => okN t && match j with
    | 0 => true
    | i + 1 => match l[i]? with
      | some s => decide (s < t)
      | none => true
def ascN (l : List Int) : Bool := (List.range l.length).all (goodN l)
theorem ascN_no {l : List Int} {k : Nat} (h : k < l.length) (hg : goodN l k = false) : ascN l = false := by
  unfold ascN
  rw [List.all_eq_false]
  exact ⟨k, List.mem_range.2 h, by simp [hg]⟩
theorem ascN_yes {l : List Int} (h : ∀ k, k < l.length → goodN l k = true) : ascN l = true := by
  unfold ascN
  rw [List.all_eq_true]
  exact fun k hk => h k (List.mem_range.1 hk)
noncomputable def ilS (f : List Int → Bool) : SpecFn := mkS (fun d : {l : List Int // l.length ≤ 9000} => [.list 1 (d.1.map iC)]) fun d => (.bool (f d.1), [])
theorem ilS_eq (f : List Int → Bool) (l : List Int) (h : l.length ≤ 9000) : ilS f [.list 1 (l.map iC)] [] = some (.bool (f l), []) :=
  mkS_eq (enc := fun d : {l : List Int // l.length ≤ 9000} => [AV.list 1 (d.1.map iC)]) (res := fun d => (.bool (f d.1), [])) (fun x y h => by
    simp only [List.cons.injEq, AV.list.injEq, true_and, and_true] at h
    rw [iC_inj h]) ⟨l, h⟩
noncomputable def asc_specs : NL Spec := [(103, ⟨1, boS okN⟩)]
theorem asc_specs_ok : ∀ p ∈ asc_specs, FnC Try.prog p.1 p.2.fn := by
  simp only [asc_specs, List.mem_cons, List.not_mem_nil, or_false]
  rintro p rfl
  exact nod_ok
attribute [local simp] asc_specs
theorem asc_ok : FnC Try.prog 180 (ilS ascN) := by
  refine FnC.walk 180 (fn := Try.f180) Try.func180 rfl (by kernel_rfl) fun d => ?_
  obtain ⟨l, hl⟩ := d
  change W _ (Ret _ _ (.bool (ascN l)) []) _ _ ⟨29, [(0, .list 1 (l.map iC))], []⟩
  have cap : l.length ≤ 9223372036854775807 := by omega
  repeat' (first | refine ZV ?_ | refine ZB tm asc_specs_ok ?_ | refine ZH (fun hb => ?_) (fun hb => ?_) | refine ZJ (by conv => lhs; simp [cap]) ?_ | refine ZA (fun hb => ?_) (fun hb => ?_))
  refine W.loop rfl (ι := { q : Nat × NL ABlk // q.1 ≤ l.length ∧ (∀ j, j < q.1 → goodN l j = true) })
    (fun q => ⟨29, [(0, .list 1 (l.map iC)), (5, .list 1 (l.map iC)), (6, .int .i64 l.length), (7, .int .i64 (q.1.1 : Nat))], q.1.2⟩) (fun q => l.length - q.1.1)
    ⟨(0, _), by simp, fun j hj => absurd hj (by simp)⟩ (AS.le_of rfl ⟨rfl, rfl, rfl, rfl, trivial⟩ (fun _ => rfl)) ?_
  rintro ⟨⟨k, h⟩, hk, hg⟩
  dsimp only at hk hg ⊢
  by_cases hk2 : k = l.length
  · subst hk2
    rw [ascN_yes hg]
    repeat' (first | refine ZV ?_ | refine ZB tm asc_specs_ok ?_ | refine ZH (fun hb => ?_) (fun hb => ?_) | refine ZJ (by conv => lhs; simp) ?_ | refine ZA (fun hb => ?_) (fun hb => ?_))
    all_goals (first | refine Ret.dataE rfl (by conv => lhs; simp) (by conv => lhs; simp) (by first | rfl | simp [inlT, inlV]) ?_ | refine RetNf.dataE rfl (by conv => lhs; simp) (by conv => lhs; simp) (by first | rfl | simp [inlT, inlV]) ?_)
    all_goals (first | rfl | (simp; done) | (simp_all; done) | (simp_all; omega))
  · have hlt : k < l.length := by omega
    obtain ⟨t, hr⟩ := get_lt hlt
    have hm : (l.map iC)[k]? = some [.int .i64 t] := by rw [List.getElem?_map, hr]; rfl
    have q1 : (k : Int) < l.length := by omega
    have q2 : ¬ l.length ≤ k := by omega
    have hw : IntKind.i64.wrap ((k : Int) + 1) = ((k + 1 : Nat) : Int) := w64 (by omega) (by omega)
    have cf := boS_eq okN t
    cases hf : okN t with
    | false =>
      rw [hf] at cf
      rw [ascN_no hlt (by simp [goodN, hr, hf])]
      repeat' (first | refine ZV ?_ | refine ZB tm asc_specs_ok ?_ | refine ZH (fun hb => ?_) (fun hb => ?_) | refine ZJ (by conv => lhs; simp [q1, q2, hm, cf]) ?_ | refine ZA (fun hb => ?_) (fun hb => ?_))
      all_goals (first | refine Ret.dataE rfl (by conv => lhs; simp) (by conv => lhs; simp) (by first | rfl | simp [inlT, inlV]) ?_ | refine RetNf.dataE rfl (by conv => lhs; simp) (by conv => lhs; simp) (by first | rfl | simp [inlT, inlV]) ?_)
      all_goals (first | rfl | (simp; done) | (simp_all; done) | (simp_all; omega))
    | true =>
      rw [hf] at cf
      by_cases hz : k = 0
      · have hgk : goodN l k = true := by subst hz; simp [goodN, hr, hf]
        have hgn : ∀ j, j < k + 1 → goodN l j = true := fun j hj => by
          have h0 : j = k := by omega
          subst h0
          exact hgk
        have q5 : ¬ (0 : Int) < (k : Int) := by omega
        have q6 : ¬ 0 < k := by omega
        clear hz
        repeat' (first | refine ZV ?_ | refine ZB tm asc_specs_ok ?_ | refine ZH (fun hb => ?_) (fun hb => ?_) | refine ZJ (by conv => lhs; simp [q1, q2, q5, q6, hm, cf, hw]) ?_ | refine ZA (fun hb => ?_) (fun hb => ?_))
        exact ⟨⟨(k + 1, _), hlt, hgn⟩, by dsimp only; omega, AS.le_of rfl ⟨rfl, rfl, rfl, rfl, trivial⟩ (fun _ => rfl)⟩
      · obtain ⟨j, hj⟩ : ∃ j, k = j + 1 := ⟨k - 1, by omega⟩
        obtain ⟨s, hs⟩ := get_lt (l := l) (i := j) (by omega)
        have hms : (l.map iC)[j]? = some [.int .i64 s] := by rw [List.getElem?_map, hs]; rfl
        have q3 : ¬ l.length ≤ j := by omega
        have q4 : (0 : Int) < (k : Int) := by omega
        have q4' : 0 < k := by omega
        have hd : IntKind.i64.wrap ((k : Int) - 1) = (j : Int) := by rw [w64 (by omega) (by omega)]; omega
        have q1' : (j : Int) < l.length := by omega
        by_cases hc : s < t
        · have hgk : goodN l k = true := by subst hj; simp [goodN, hr, hf, hs, hc]
          have hc2 : ¬ t ≤ s := by omega
          have hgn : ∀ i, i < k + 1 → goodN l i = true := fun i hi => by
            by_cases e : i = k
            · subst e
              exact hgk
            · exact hg i (by omega)
          repeat' (first | refine ZV ?_ | refine ZB tm asc_specs_ok ?_ | refine ZH (fun hb => ?_) (fun hb => ?_) | refine ZJ (by conv => lhs; simp [q1, q1', q2, q3, q4, q4', hm, hms, cf, hw, hd, hc2]) ?_ | refine ZA (fun hb => ?_) (fun hb => ?_))
          exact ⟨⟨(k + 1, _), hlt, hgn⟩, by dsimp only; omega, AS.le_of rfl ⟨rfl, rfl, rfl, rfl, trivial⟩ (fun _ => rfl)⟩
        · rw [ascN_no hlt (by subst hj; simp [goodN, hr, hf, hs, hc])]
          have hc2 : t ≤ s := by omega
          repeat' (first | refine ZV ?_ | refine ZB tm asc_specs_ok ?_ | refine ZH (fun hb => ?_) (fun hb => ?_) | refine ZJ (by conv => lhs; simp [q1, q1', q2, q3, q4, q4', hm, hms, cf, hw, hd, hc2]) ?_ | refine ZA (fun hb => ?_) (fun hb => ?_))
          all_goals (first | refine Ret.dataE rfl (by conv => lhs; simp) (by conv => lhs; simp) (by first | rfl | simp [inlT, inlV]) ?_ | refine RetNf.dataE rfl (by conv => lhs; simp) (by conv => lhs; simp) (by first | rfl | simp [inlT, inlV]) ?_)
          all_goals (first | rfl | (simp; done) | (simp_all; done) | (simp_all; omega))
theorem ascN_iff {l : List Int} : ascN l = true ↔ (∀ x ∈ l, okN x = true) ∧ Dir.Asc l := by
  constructor
  · intro h
    have hg : ∀ k, k < l.length → goodN l k = true := fun k hk => by
      unfold ascN at h
      rw [List.all_eq_true] at h
      exact h k (List.mem_range.2 hk)
    have h1 : ∀ k (hk : k < l.length), okN l[k] = true := fun k hk => by
      have := hg k hk
      unfold goodN at this
      rw [List.getElem?_eq_getElem hk] at this
      simp only [Bool.and_eq_true] at this
      exact this.1
    have h2 : ∀ k (hk : k + 1 < l.length), l[k] < l[k + 1] := fun k hk => by
      have := hg (k + 1) hk
      unfold goodN at this
      rw [List.getElem?_eq_getElem hk] at this
      simp only [List.getElem?_eq_getElem (show k < l.length by omega), Bool.and_eq_true, decide_eq_true_eq] at this
      exact this.2
    refine ⟨fun x hx => ?_, ?_⟩
    · obtain ⟨k, hk, rfl⟩ := List.mem_iff_getElem.1 hx
      exact h1 k hk
    · rw [Dir.Asc, List.pairwise_iff_getElem]
      intro i j hi hj hij
      induction j with
      | zero => omega
      | succ j ih =>
        by_cases e : i = j
        · subst e; exact h2 i hj
        · have := ih (by omega) (by omega)
          have := h2 j hj
          omega
  · rintro ⟨h1, h2⟩
    refine ascN_yes fun k hk => ?_
    unfold goodN
    rw [List.getElem?_eq_getElem hk]
    simp only [h1 _ (List.getElem_mem hk), Bool.true_and]
    cases k with
    | zero => rfl
    | succ i =>
      simp only [List.getElem?_eq_getElem (show i < l.length by omega), decide_eq_true_eq]
      exact List.pairwise_iff_getElem.1 h2 i (i + 1) (by omega) hk (by omega)
end Go.Abs.Na
namespace Go.Abs.Na
open Go Go.Proofs Go.Abs
set_option maxRecDepth 100000
set_option maxHeartbeats 4000000
set_option linter.unusedSimpArgs false
set_option linter.unusedVariables false
attribute [local simp] instA
/-! ### A number in a list -/
def ixE (n : Int) : Nat → List Int → Int
  | _, [] => -1
  | k, x :: r => if n = x then (k : Int) else ixE n (k + 1) r
theorem ixE_drop {n : Int} {l : List Int} {k : Nat} {x : Int} (h : l[k]? = some x) : ixE n k (l.drop k) = if n = x then (k : Int) else ixE n (k + 1) (l.drop (k + 1)) := by
  obtain ⟨hk, rfl⟩ := List.getElem?_eq_some_iff.1 h
  rw [List.drop_eq_getElem_cons hk, ixE]
theorem ixE_mem {n : Int} : ∀ {k : Nat} {l : List Int}, decide (0 ≤ ixE n k l) = decide (n ∈ l)
  | k, [] => by simp [ixE]
  | k, x :: r => by
    rw [ixE]
    by_cases h : n = x
    · simp [h]
    · rw [if_neg h, ixE_mem (k := k + 1) (l := r)]
      simp [h]
noncomputable def ixeS : SpecFn := mkS (fun d : {l : List Int // l.length ≤ 9100} × Int => [.list 1 (d.1.1.map iC), .int .i64 d.2]) fun d => (.int .i64 (ixE d.2 0 d.1.1), [])
theorem ixeS_eq (l : List Int) (n : Int) (h : l.length ≤ 9100) : ixeS [.list 1 (l.map iC), .int .i64 n] [] = some (.int .i64 (ixE n 0 l), []) :=
  mkS_eq (enc := fun d : {l : List Int // l.length ≤ 9100} × Int => [AV.list 1 (d.1.1.map iC), .int .i64 d.2]) (res := fun d => (.int .i64 (ixE d.2 0 d.1.1), [])) (fun x y h => by
    simp only [List.cons.injEq, AV.list.injEq, AV.int.injEq, true_and, and_true] at h
    rw [iC_inj h.1, h.2]) (⟨l, h⟩, n)
theorem ixe_ok : FnC Try.prog 172 ixeS := by
  refine FnC.walk 172 (fn := Try.f172) Try.func172 rfl (by kernel_rfl) fun x => ?_
  obtain ⟨⟨l, hl⟩, n⟩ := x
  change W _ (Ret _ _ (.int .i64 (ixE n 0 l)) []) _ _ ⟨19, [(0, .list 1 (l.map iC)), (1, .int .i64 n)], []⟩
  have cap : l.length ≤ 9223372036854775807 := by omega
  repeat' (first | refine ZV ?_ | refine ZB tm no_specs ?_ | refine ZH (fun hb => ?_) (fun hb => ?_) | refine ZJ (by conv => lhs; simp [cap]) ?_ | refine ZA (fun hb => ?_) (fun hb => ?_))
  refine W.loop rfl (ι := { q : Nat × NL ABlk // q.1 ≤ l.length ∧ ixE n 0 l = ixE n q.1 (l.drop q.1) })
    (fun q => ⟨19, [(0, .list 1 (l.map iC)), (1, .int .i64 n), (7, .int .i64 l.length), (8, .int .i64 (q.1.1 : Nat))], q.1.2⟩) (fun q => l.length - q.1.1)
    ⟨(0, []), by simp, rfl⟩ (AS.le_of rfl ⟨rfl, rfl, rfl, rfl, trivial⟩ (fun _ => rfl)) ?_
  rintro ⟨⟨k, h⟩, hk, hf⟩
  dsimp only at hk hf ⊢
  by_cases hk2 : k = l.length
  · subst hk2
    rw [List.drop_length] at hf
    rw [hf]
    repeat' (first | refine ZV ?_ | refine ZB tm no_specs ?_ | refine ZH (fun hb => ?_) (fun hb => ?_) | refine ZJ (by conv => lhs; simp) ?_ | refine ZA (fun hb => ?_) (fun hb => ?_))
    all_goals (first | refine Ret.dataE rfl (by conv => lhs; simp) (by conv => lhs; simp) (by first | rfl | simp [inlT, inlV]) ?_ | refine RetNf.dataE rfl (by conv => lhs; simp) (by conv => lhs; simp) (by first | rfl | simp [inlT, inlV]) ?_)
    all_goals (first | rfl | (simp [ixE]; done) | (simp_all [ixE]; done) | (simp_all [ixE]; omega))
  · have hlt : k < l.length := by omega
    obtain ⟨m, hr⟩ := get_lt hlt
    have hm : (l.map iC)[k]? = some [.int .i64 m] := by rw [List.getElem?_map, hr]; rfl
    have q1 : (k : Int) < l.length := by omega
    have q2 : ¬ l.length ≤ k := by omega
    have hw : IntKind.i64.wrap ((k : Int) + 1) = ((k + 1 : Nat) : Int) := w64 (by omega) (by omega)
    rw [ixE_drop hr] at hf
    clear hlt hk2
    by_cases ho : n = m
    · rw [if_pos ho] at hf
      rw [hf]
      have ho2 : (n == m) = true := by simp [ho]
      clear ho
      repeat' (first | refine ZV ?_ | refine ZB tm no_specs ?_ | refine ZH (fun hb => ?_) (fun hb => ?_) | refine ZJ (by conv => lhs; simp [q1, q2, hm, ho2]) ?_ | refine ZA (fun hb => ?_) (fun hb => ?_))
      all_goals (first | refine Ret.dataE rfl (by conv => lhs; simp) (by conv => lhs; simp) (by first | rfl | simp [inlT, inlV]) ?_ | refine RetNf.dataE rfl (by conv => lhs; simp) (by conv => lhs; simp) (by first | rfl | simp [inlT, inlV]) ?_)
      all_goals (first | rfl | (simp; done) | (simp_all; done) | (simp_all; omega))
    · rw [if_neg ho] at hf
      have ho2 : (n == m) = false := by simp [ho]
      clear ho
      repeat' (first | refine ZV ?_ | refine ZB tm no_specs ?_ | refine ZH (fun hb => ?_) (fun hb => ?_) | refine ZJ (by conv => lhs; simp [q1, q2, hm, hw, ho2]) ?_ | refine ZA (fun hb => ?_) (fun hb => ?_))
      exact ⟨⟨(k + 1, _), by dsimp only; omega, hf⟩, by dsimp only; omega, AS.le_of rfl ⟨rfl, rfl, rfl, rfl, trivial⟩ (fun _ => rfl)⟩
noncomputable def conS : SpecFn := mkS (fun d : {l : List Int // l.length ≤ 9100} × Int => [.list 1 (d.1.1.map iC), .int .i64 d.2]) fun d => (.bool (decide (d.2 ∈ d.1.1)), [])
theorem conS_eq (l : List Int) (n : Int) (h : l.length ≤ 9100) : conS [.list 1 (l.map iC), .int .i64 n] [] = some (.bool (decide (n ∈ l)), []) :=
  mkS_eq (enc := fun d : {l : List Int // l.length ≤ 9100} × Int => [AV.list 1 (d.1.1.map iC), .int .i64 d.2]) (res := fun d => (.bool (decide (d.2 ∈ d.1.1)), [])) (fun x y h => by
    simp only [List.cons.injEq, AV.list.injEq, AV.int.injEq, true_and, and_true] at h
    rw [iC_inj h.1, h.2]) (⟨l, h⟩, n)
noncomputable def con_specs : NL Spec := [(172, ⟨0, ixeS⟩)]
theorem con_specs_ok : ∀ p ∈ con_specs, FnC Try.prog p.1 p.2.fn := by
  simp only [con_specs, List.mem_cons, List.not_mem_nil, or_false]
  rintro p rfl
  exact ixe_ok
attribute [local simp] con_specs
theorem con_ok : FnC Try.prog 106 conS := by
  refine FnC.walk 106 (fn := Try.f106) Try.func106 rfl (by kernel_rfl) fun x => ?_
  obtain ⟨⟨l, hl⟩, n⟩ := x
  have cf := ixeS_eq l n hl
  change W _ (Ret _ _ (.bool (decide (n ∈ l))) []) _ _ ⟨9, [(0, .list 1 (l.map iC)), (1, .int .i64 n)], []⟩
  rw [← ixE_mem (k := 0)]
  repeat' (first | refine ZV ?_ | refine ZB tm con_specs_ok ?_ | refine ZH (fun hb => ?_) (fun hb => ?_) | refine ZJ (by conv => lhs; simp [cf]) ?_ | refine ZA (fun hb => ?_) (fun hb => ?_))
  all_goals (first | refine Ret.dataE rfl (by conv => lhs; simp) (by conv => lhs; simp) (by first | rfl | simp [inlT, inlV]) ?_ | refine RetNf.dataE rfl (by conv => lhs; simp) (by conv => lhs; simp) (by first | rfl | simp [inlT, inlV]) ?_)
  all_goals (first | rfl | (simp; done) | (simp_all; done) | (simp_all; omega))
/-! ### Requests -/
def ixaF (p : (Int × Int) → Bool) : Nat → List (Int × Int) → Int
  | _, [] => -1
  | k, x :: r => if p x then (k : Int) else ixaF p (k + 1) r
theorem ixaF_drop {p : (Int × Int) → Bool} {l : List (Int × Int)} {k : Nat} {x : (Int × Int)} (h : l[k]? = some x) : ixaF p k (l.drop k) = if p x then (k : Int) else ixaF p (k + 1) (l.drop (k + 1)) := by
  obtain ⟨hk, rfl⟩ := List.getElem?_eq_some_iff.1 h
  rw [List.drop_eq_getElem_cons hk, ixaF]
theorem ixaF_end {p : (Int × Int) → Bool} {l : List (Int × Int)} : ixaF p l.length (l.drop l.length) = -1 := by rw [List.drop_length]; rfl
theorem ixaF_any {p : (Int × Int) → Bool} : ∀ {k : Nat} {l : List (Int × Int)}, decide (0 ≤ ixaF p k l) = l.any p
  | k, [] => by simp [ixaF]
  | k, x :: r => by
    rw [ixaF, List.any_cons]
    cases hp : p x
    · simpa using ixaF_any (p := p) (k := k + 1) (l := r)
    · simp
/-- A function value, and the block that it holds. -/
structure ixaV where
  F : FuncId
  p : (Int × Int) → Bool
  S : SpecFn
  ok : FnC Try.prog F S
  eq : ∀ x, S [.agg (askC x)] [] = some (.bool (p x), [])
structure ixaW where
  F : FuncId
  ne : (F = 173) = False
  ne2 : (173 = F) = False
  p : (Int × Int) → Bool
  E : Nat
  s : Nat
  row : List AV
  refs : refsL row = []
  ren : ∀ f, renL f row = row
  S : SpecFn
  ok : FnC Try.prog F S
  eq : ∀ x, S [.agg (askC x), .ptr 0 0 0 0] [{ gen := 0, kind := 2, elem := E, size := s, inl := false, rows := [row] }] = some (.bool (p x), [{ gen := 0, kind := 2, elem := E, size := s, inl := false, rows := [row] }])
def ixaW.b (v : ixaW) : ABlk := { gen := 0, kind := 2, elem := v.E, size := v.s, inl := false, rows := [v.row] }
def ixaB (l : List (Int × Int)) : ABlk := { gen := 0, kind := 2, elem := 120, size := 2, inl := true, rows := l.map askC }
theorem ixaC_inj {l m : List (Int × Int)} (h : l.map askC = m.map askC) : l = m := map_inj' (fun a b h => (by obtain ⟨a1, a2⟩ := a; simpa [askC, Prod.ext_iff] using h)) h
noncomputable def ixa0 (v : ixaV) : SpecFn := mkS2 (fun l : {l : List (Int × Int) // l.length ≤ 9100} => ([.list 2 (l.1.map askC), .fn (.func v.F) [] []], [])) fun l => (.int .i64 (ixaF v.p 0 l.1), [])
theorem ixa0_eq (v : ixaV) (l : List (Int × Int)) (h : l.length ≤ 9100) : ixa0 v [.list 2 (l.map askC), .fn (.func v.F) [] []] [] = some (.int .i64 (ixaF v.p 0 l), []) :=
  mkS2_eq (enc := fun l : {l : List (Int × Int) // l.length ≤ 9100} => ([AV.list 2 (l.1.map askC), .fn (.func v.F) [] []], ([] : List ABlk))) (res := fun l => (AV.int .i64 (ixaF v.p 0 l.1), [])) (fun x y h => by
    simp only [Prod.mk.injEq, List.cons.injEq, AV.list.injEq, true_and, and_true] at h
    rw [ixaC_inj h]) ⟨l, h⟩
noncomputable def ixa2 (v : ixaW) : SpecFn := mkS2 (fun l : {l : List (Int × Int) // l.length ≤ 9100} => ([.sl 0 0 0 l.1.length, .fn (.func v.F) [] [.ptr 1 0 0 0]], [ixaB l.1, v.b])) fun l => (.int .i64 (ixaF v.p 0 l.1), [ixaB l.1, v.b])
theorem ixa2_eq (v : ixaW) (l : List (Int × Int)) (h : l.length ≤ 9100) : ixa2 v [.sl 0 0 0 l.length, .fn (.func v.F) [] [.ptr 1 0 0 0]] [ixaB l, v.b] = some (.int .i64 (ixaF v.p 0 l), [ixaB l, v.b]) :=
  mkS2_eq (enc := fun l : {l : List (Int × Int) // l.length ≤ 9100} => ([AV.sl 0 0 0 l.1.length, .fn (.func v.F) [] [.ptr 1 0 0 0]], [ixaB l.1, v.b])) (res := fun l => (AV.int .i64 (ixaF v.p 0 l.1), [ixaB l.1, v.b])) (fun x y h => by
    simp only [ixaB, Prod.mk.injEq, List.cons.injEq, ABlk.mk.injEq, true_and, and_true] at h
    rw [ixaC_inj h.2]) ⟨l, h⟩
theorem ixa0_ok (v : ixaV) : FnC Try.prog 173 (ixa0 v) := by
  obtain ⟨G, p, S, ok, eq⟩ := v
  have sp : ∀ q ∈ ([(G, ⟨3, S⟩)] : NL Spec), FnC Try.prog q.1 q.2.fn := by
    simp only [List.mem_cons, List.not_mem_nil, or_false]
    rintro q rfl
    exact ok
  refine FnC.walkB 173 (fn := Try.f173) Try.func173 rfl (by kernel_rfl) (fun x b hb => by simp at hb) fun x => ?_
  obtain ⟨l, hl⟩ := x
  change W _ (RetB _ _ 0 (.int .i64 (ixaF p 0 l)) []) _ _ ⟨19, [(0, .list 2 (l.map askC)), (1, .fn (.func G) [] [])], []⟩
  have cap : l.length ≤ 9223372036854775807 := by omega
  repeat' (first | refine ZV ?_ | refine ZB tm sp ?_ | refine ZH (fun hb => ?_) (fun hb => ?_) | refine ZJ (by conv => lhs; simp [cap]) ?_ | refine ZA (fun hb => ?_) (fun hb => ?_))
  refine W.loop rfl (ι := { q : Nat × NL ABlk // q.1 ≤ l.length ∧ ixaF p 0 l = ixaF p q.1 (l.drop q.1) })
    (fun q => ⟨19, [(0, .list 2 (l.map askC)), (1, .fn (.func G) [] []), (7, .int .i64 l.length), (8, .int .i64 (q.1.1 : Nat))], q.1.2⟩) (fun q => l.length - q.1.1)
    ⟨(0, []), by simp, rfl⟩ (AS.le_of rfl ⟨rfl, rfl, rfl, rfl, trivial⟩ (fun _ => rfl)) ?_
  rintro ⟨⟨k, h⟩, hk, hf⟩
  dsimp only at hk hf ⊢
  by_cases hk2 : k = l.length
  · subst hk2
    rw [ixaF_end] at hf
    rw [hf]
    repeat' (first | refine ZV ?_ | refine ZB tm sp ?_ | refine ZH (fun hb => ?_) (fun hb => ?_) | refine ZJ (by conv => lhs; simp) ?_ | refine ZA (fun hb => ?_) (fun hb => ?_))
    exact RetB.raw [] rfl (by conv => lhs; simp) (by decide) (by simp) (by simp) (by simp)
  · have hlt : k < l.length := by omega
    obtain ⟨m, hr⟩ := get_lt hlt
    have hm : (l.map askC)[k]? = some (askC m) := by rw [List.getElem?_map, hr]; rfl
    have q1 : (k : Int) < l.length := by omega
    have q2 : ¬ l.length ≤ k := by omega
    have hw : IntKind.i64.wrap ((k : Int) + 1) = ((k + 1 : Nat) : Int) := w64 (by omega) (by omega)
    rw [ixaF_drop hr] at hf
    have cf := eq m
    clear hlt hk2
    simp only [askC] at cf hm
    cases ho : p m with
    | true =>
      rw [if_pos ho] at hf
      rw [hf]
      rw [ho] at cf
      repeat' (first | refine ZV ?_ | refine ZB tm sp ?_ | refine ZH (fun hb => ?_) (fun hb => ?_) | refine ZJ (by conv => lhs; simp [q1, q2, hm, cf, askC]) ?_ | refine ZA (fun hb => ?_) (fun hb => ?_))
      exact RetB.raw [] rfl (by conv => lhs; simp) (by decide) (by simp) (by simp) (by simp)
    | false =>
      rw [if_neg (by simp [ho])] at hf
      rw [ho] at cf
      repeat' (first | refine ZV ?_ | refine ZB tm sp ?_ | refine ZH (fun hb => ?_) (fun hb => ?_) | refine ZJ (by conv => lhs; simp [q1, q2, hm, cf, hw, askC]) ?_ | refine ZA (fun hb => ?_) (fun hb => ?_))
      exact ⟨⟨(k + 1, _), by dsimp only; omega, hf⟩, by dsimp only; omega, AS.le_of rfl ⟨rfl, rfl, rfl, rfl, trivial⟩ (fun _ => rfl)⟩
theorem ixa2_ok (v : ixaW) : FnC Try.prog 173 (ixa2 v) := by
  obtain ⟨G, ne, ne2, p, E, s, row, rf, rn, S, ok, eq⟩ := v
  have sp : ∀ q ∈ ([(G, ⟨3, S⟩)] : NL Spec), FnC Try.prog q.1 q.2.fn := by
    simp only [List.mem_cons, List.not_mem_nil, or_false]
    rintro q rfl
    exact ok
  refine FnC.walkB 173 (fn := Try.f173) Try.func173 rfl (by kernel_rfl) (fun x b hb => by simp at hb; rcases hb with rfl | rfl <;> rfl) fun x => ?_
  obtain ⟨l, hl⟩ := x
  change W _ (RetB _ _ 2 (.int .i64 (ixaF p 0 l)) [ixaB l, { gen := 0, kind := 2, elem := E, size := s, inl := false, rows := [row] }]) _ _ ⟨19, [(0, .sl 0 0 0 l.length), (1, .fn (.func G) [] [.ptr 1 0 0 0])], [(0, ixaB l), (1, { gen := 0, kind := 2, elem := E, size := s, inl := false, rows := [row] })]⟩
  have cap : l.length ≤ 9223372036854775807 := by omega
  repeat' (first | refine ZV ?_ | refine ZB tm sp ?_ | refine ZH (fun hb => ?_) (fun hb => ?_) | refine ZJ (by conv => lhs; simp [cap, ixaB]) ?_ | refine ZA (fun hb => ?_) (fun hb => ?_))
  refine W.loop rfl (ι := { q : Nat × NL ABlk // q.1 ≤ l.length ∧ ixaF p 0 l = ixaF p q.1 (l.drop q.1) ∧ lk q.2 0 = some (ixaB l) ∧ lk q.2 1 = some { gen := 0, kind := 2, elem := E, size := s, inl := false, rows := [row] } })
    (fun q => ⟨19, [(0, .sl 0 0 0 l.length), (1, .fn (.func G) [] [.ptr 1 0 0 0]), (7, .int .i64 l.length), (8, .int .i64 (q.1.1 : Nat))], q.1.2⟩) (fun q => l.length - q.1.1)
    ⟨(0, _), by simp, rfl, rfl, rfl⟩ (AS.le_of rfl ⟨rfl, rfl, rfl, rfl, trivial⟩ (fun _ => rfl)) ?_
  rintro ⟨⟨k, h⟩, hk, hf, h0, h1⟩
  dsimp only at hk hf h0 h1 ⊢
  by_cases hk2 : k = l.length
  · subst hk2
    rw [ixaF_end] at hf
    rw [hf]
    repeat' (first | refine ZV ?_ | refine ZB tm sp ?_ | refine ZH (fun hb => ?_) (fun hb => ?_) | refine ZJ (by conv => lhs; simp) ?_ | refine ZA (fun hb => ?_) (fun hb => ?_))
    exact RetB.raw [0, 1] rfl (by conv => lhs; simp) (by decide) (by intro i hi; rcases (show i = 0 ∨ i = 1 by omega) with rfl | rfl <;> simp [h0, h1, ixaB]) (by simp [h0, h1, rn, ixaB]) (by simp)
  · have hlt : k < l.length := by omega
    obtain ⟨m, hr⟩ := get_lt hlt
    have hm : (l.map askC)[k]? = some (askC m) := by rw [List.getElem?_map, hr]; rfl
    have q1 : (k : Int) < l.length := by omega
    have q2 : ¬ l.length ≤ k := by omega
    have hw : IntKind.i64.wrap ((k : Int) + 1) = ((k + 1 : Nat) : Int) := w64 (by omega) (by omega)
    rw [ixaF_drop hr] at hf
    have cf := eq m
    clear hlt hk2
    simp only [askC] at cf hm
    have h0' := h0
    unfold ixaB at h0
    cases ho : p m with
    | true =>
      rw [if_pos ho] at hf
      rw [hf]
      rw [ho] at cf
      repeat' (first | refine ZV ?_ | refine ZB tm sp ?_ | refine ZH (fun hb => ?_) (fun hb => ?_) | refine ZJ (by conv => lhs; simp [q1, q2, hm, cf, h0, h1, rf, rn, askC]) ?_ | refine ZA (fun hb => ?_) (fun hb => ?_))
      exact RetB.raw [0, 1] rfl (by conv => lhs; simp) (by decide) (by intro i hi; rcases (show i = 0 ∨ i = 1 by omega) with rfl | rfl <;> simp [h0, lk_st]) (by simp [h0, rn, lk_st, ixaB]) (by simp)
    | false =>
      rw [if_neg (by simp [ho])] at hf
      rw [ho] at cf
      repeat' (first | refine ZV ?_ | refine ZB tm sp ?_ | refine ZH (fun hb => ?_) (fun hb => ?_) | refine ZJ (by conv => lhs; simp [q1, q2, hm, cf, hw, h0, h1, rf, rn, askC]) ?_ | refine ZA (fun hb => ?_) (fun hb => ?_))
      exact ⟨⟨(k + 1, _), by dsimp only; omega, hf, by simp [lk_st, h0'], by simp [lk_st]⟩, by dsimp only; omega, AS.le_of rfl ⟨rfl, rfl, rfl, rfl, trivial⟩ (fun _ => rfl)⟩
noncomputable def ixac0 (v : ixaV) : SpecFn := mkS2 (fun l : {l : List (Int × Int) // l.length ≤ 9100} => ([.list 2 (l.1.map askC), .fn (.func v.F) [] []], [])) fun l => (.bool (l.1.any v.p), [])
theorem ixac0_eq (v : ixaV) (l : List (Int × Int)) (h : l.length ≤ 9100) : ixac0 v [.list 2 (l.map askC), .fn (.func v.F) [] []] [] = some (.bool (l.any v.p), []) :=
  mkS2_eq (enc := fun l : {l : List (Int × Int) // l.length ≤ 9100} => ([AV.list 2 (l.1.map askC), .fn (.func v.F) [] []], ([] : List ABlk))) (res := fun l => (AV.bool (l.1.any v.p), [])) (fun x y h => by
    simp only [Prod.mk.injEq, List.cons.injEq, AV.list.injEq, true_and, and_true] at h
    rw [ixaC_inj h]) ⟨l, h⟩
theorem ixac0_ok (v : ixaV) : FnC Try.prog 107 (ixac0 v) := by
  have sp : ∀ q ∈ ([(173, ⟨3, ixa0 v⟩)] : NL Spec), FnC Try.prog q.1 q.2.fn := by
    simp only [List.mem_cons, List.not_mem_nil, or_false]
    rintro q rfl
    exact ixa0_ok v
  refine FnC.walkB 107 (fn := Try.f107) Try.func107 rfl (by kernel_rfl) (fun x b hb => by simp at hb) fun x => ?_
  obtain ⟨l, hl⟩ := x
  have cf := ixa0_eq v l hl
  obtain ⟨G, p, S, ok, eq⟩ := v
  change W _ (RetB _ _ 0 (.bool (l.any p)) []) _ _ ⟨9, [(0, .list 2 (l.map askC)), (1, .fn (.func G) [] [])], []⟩
  repeat' (first | refine ZV ?_ | refine ZB tm sp ?_ | refine ZH (fun hb => ?_) (fun hb => ?_) | refine ZJ (by conv => lhs; simp [cf]) ?_ | refine ZA (fun hb => ?_) (fun hb => ?_))
  exact RetB.raw [] rfl (by conv => lhs; simp) (by decide) (by simp) (by simp) (by simp [ixaF_any])
noncomputable def ixac2 (v : ixaW) : SpecFn := mkS2 (fun l : {l : List (Int × Int) // l.length ≤ 9100} => ([.sl 0 0 0 l.1.length, .fn (.func v.F) [] [.ptr 1 0 0 0]], [ixaB l.1, v.b])) fun l => (.bool (l.1.any v.p), [ixaB l.1, v.b])
theorem ixac2_eq (v : ixaW) (l : List (Int × Int)) (h : l.length ≤ 9100) : ixac2 v [.sl 0 0 0 l.length, .fn (.func v.F) [] [.ptr 1 0 0 0]] [ixaB l, v.b] = some (.bool (l.any v.p), [ixaB l, v.b]) :=
  mkS2_eq (enc := fun l : {l : List (Int × Int) // l.length ≤ 9100} => ([AV.sl 0 0 0 l.1.length, .fn (.func v.F) [] [.ptr 1 0 0 0]], [ixaB l.1, v.b])) (res := fun l => (AV.bool (l.1.any v.p), [ixaB l.1, v.b])) (fun x y h => by
    simp only [ixaB, Prod.mk.injEq, List.cons.injEq, ABlk.mk.injEq, true_and, and_true] at h
    rw [ixaC_inj h.2]) ⟨l, h⟩
theorem ixac2_ok (v : ixaW) : FnC Try.prog 107 (ixac2 v) := by
  have sp : ∀ q ∈ ([(173, ⟨3, ixa2 v⟩)] : NL Spec), FnC Try.prog q.1 q.2.fn := by
    simp only [List.mem_cons, List.not_mem_nil, or_false]
    rintro q rfl
    exact ixa2_ok v
  refine FnC.walkB 107 (fn := Try.f107) Try.func107 rfl (by kernel_rfl) (fun x b hb => by simp at hb; rcases hb with rfl | rfl <;> rfl) fun x => ?_
  obtain ⟨l, hl⟩ := x
  have cf := ixa2_eq v l hl
  obtain ⟨G, ne, ne2, p, E, s, row, rf, rn, S, ok, eq⟩ := v
  simp only [ixaW.b, ixaB] at cf
  change W _ (RetB _ _ 2 (.bool (l.any p)) [{ gen := 0, kind := 2, elem := 120, size := 2, inl := true, rows := l.map askC }, { gen := 0, kind := 2, elem := E, size := s, inl := false, rows := [row] }]) _ _ ⟨9, [(0, .sl 0 0 0 l.length), (1, .fn (.func G) [] [.ptr 1 0 0 0])], [(0, { gen := 0, kind := 2, elem := 120, size := 2, inl := true, rows := l.map askC }), (1, { gen := 0, kind := 2, elem := E, size := s, inl := false, rows := [row] })]⟩
  repeat' (first | refine ZV ?_ | refine ZB tm sp ?_ | refine ZH (fun hb => ?_) (fun hb => ?_) | refine ZJ (by conv => lhs; simp [cf, rf, rn]) ?_ | refine ZA (fun hb => ?_) (fun hb => ?_))
  exact RetB.raw [0, 1] rfl (by conv => lhs; simp) (by decide) (by intro i hi; rcases (show i = 0 ∨ i = 1 by omega) with rfl | rfl <;> simp) (by simp [rn]) (by simp [ixaF_any])
noncomputable def ixic1 (v : ixiW) : SpecFn := mkS2 (fun l : {l : List Int // l.length ≤ 9100} => ([.list 1 (l.1.map iC), .fn (.func v.F) [] [.ptr 0 0 0 0]], [v.b])) fun l => (.bool (l.1.any v.p), [v.b])
theorem ixic1_eq (v : ixiW) (l : List Int) (h : l.length ≤ 9100) : ixic1 v [.list 1 (l.map iC), .fn (.func v.F) [] [.ptr 0 0 0 0]] [v.b] = some (.bool (l.any v.p), [v.b]) :=
  mkS2_eq (enc := fun l : {l : List Int // l.length ≤ 9100} => ([AV.list 1 (l.1.map iC), .fn (.func v.F) [] [.ptr 0 0 0 0]], [v.b])) (res := fun l => (AV.bool (l.1.any v.p), [v.b])) (fun x y h => by
    simp only [Prod.mk.injEq, List.cons.injEq, AV.list.injEq, true_and, and_true] at h
    rw [ixiC_inj h]) ⟨l, h⟩
theorem ixic1_ok (v : ixiW) : FnC Try.prog 92 (ixic1 v) := by
  have sp : ∀ q ∈ ([(161, ⟨3, ixi1 v⟩)] : NL Spec), FnC Try.prog q.1 q.2.fn := by
    simp only [List.mem_cons, List.not_mem_nil, or_false]
    rintro q rfl
    exact ixi1_ok v
  refine FnC.walkB 92 (fn := Try.f92) Try.func92 rfl (by kernel_rfl) (fun x b hb => by simp at hb; rw [hb]; rfl) fun x => ?_
  obtain ⟨l, hl⟩ := x
  have cf := ixi1_eq v l hl
  obtain ⟨G, ne, ne2, p, E, s, row, rf, rn, S, ok, eq⟩ := v
  simp only [ixiW.b] at cf
  change W _ (RetB _ _ 1 (.bool (l.any p)) [{ gen := 0, kind := 2, elem := E, size := s, inl := false, rows := [row] }]) _ _ ⟨9, [(0, .list 1 (l.map iC)), (1, .fn (.func G) [] [.ptr 0 0 0 0])], [(0, { gen := 0, kind := 2, elem := E, size := s, inl := false, rows := [row] })]⟩
  repeat' (first | refine ZV ?_ | refine ZB tm sp ?_ | refine ZH (fun hb => ?_) (fun hb => ?_) | refine ZJ (by conv => lhs; simp [cf, rf, rn]) ?_ | refine ZA (fun hb => ?_) (fun hb => ?_))
  exact RetB.raw [0] rfl (by conv => lhs; simp) (by decide) (by simp) (by simp [rn]) (by simp [ixiF_any])
end Go.Abs.Na
namespace Go.Abs.Na
open Go Go.Proofs Go.Abs
set_option maxRecDepth 100000
set_option maxHeartbeats 4000000
set_option linter.unusedSimpArgs false
set_option linter.unusedVariables false
attribute [local simp] instA
attribute [-simp] mkv
attribute [local simp] mkv_hd hdA_cons hdA_ob hdA_ob'
/-! ### Strangers, and odd requests -/
def enBlk (e : En) : ABlk := { gen := 0, kind := 2, elem := 117, size := 41, inl := false, rows := [enC e] }
theorem enC_refs (e : En) : refsL (enC e) = [] := refsL_inl (by simp [enC, AV.isInl])
theorem enC_ren (e : En) (f : Nat → Nat → Option (Nat × Nat)) : renL f (enC e) = enC e := renL_inl (by simp [enC, AV.isInl])
def strg (e : En) (n : Int) : Bool := n != e.owner && !decide (n ∈ e.readers)
noncomputable def strS (e : En) : SpecFn := mkS2 (fun n : Int => ([.int .i64 n, .ptr 0 0 0 0], [enBlk e])) fun n => (.bool (strg e n), [enBlk e])
theorem strS_eq (e : En) (n : Int) : strS e [.int .i64 n, .ptr 0 0 0 0] [enBlk e] = some (.bool (strg e n), [enBlk e]) :=
  mkS2_eq (enc := fun n : Int => ([AV.int .i64 n, .ptr 0 0 0 0], [enBlk e])) (res := fun n => (.bool (strg e n), [enBlk e])) (fun x y h => by
    simp only [Prod.mk.injEq, List.cons.injEq, AV.int.injEq, true_and, and_true] at h
    rw [h]) n
noncomputable def str_specs : NL Spec := [(106, ⟨0, conS⟩)]
theorem str_specs_ok : ∀ p ∈ str_specs, FnC Try.prog p.1 p.2.fn := by
  simp only [str_specs, List.mem_cons, List.not_mem_nil, or_false]
  rintro p rfl
  exact con_ok
attribute [local simp] str_specs
theorem str_ok (e : En) (he : okE e) : FnC Try.prog 178 (strS e) := by
  obtain ⟨id, ow, rd, o, wt, q⟩ := e
  obtain ⟨hrd, hwt, hq⟩ := he
  dsimp only at hrd hwt hq
  refine FnC.walkB 178 (fn := Try.f178) Try.func178 rfl (by kernel_rfl) (fun x b hb => by simp at hb; rw [hb]; rfl) fun n => ?_
  have cf := conS_eq rd n (by omega)
  change W _ (RetB _ _ 1 (.bool (n != ow && !decide (n ∈ rd))) [enBlk ⟨id, ow, rd, o, wt, q⟩]) _ _ ⟨15, [(0, .int .i64 n), (1, .ptr 0 0 0 0)], [(0, { gen := 0, kind := 2, elem := 117, size := 41, inl := false, rows := [.int .u64 id :: .int .i64 ow :: .list 1 (rd.map iC) :: (o.cells ++ [.list 1 (wt.map iC), .list 2 (q.map askC)])] })]⟩
  repeat' (first | refine ZV ?_ | refine ZB tm str_specs_ok ?_ | refine ZH (fun hb => ?_) (fun hb => ?_) | refine ZJ (by conv => lhs; simp [cf]) ?_ | refine ZA (fun hb => ?_) (fun hb => ?_))
  all_goals exact RetB.raw [0] rfl (by conv => lhs; simp) (by decide) (by simp) (by simp [enBlk, renL]) (by simp_all)
def oddA (p : Int × Int) : Bool := !okN p.1 || !okM p.2
noncomputable def oddS : SpecFn := mkS2 (fun p : Int × Int => ([.agg (askC p)], [])) fun p => (.bool (oddA p), [])
theorem oddS_eq (p : Int × Int) : oddS [.agg (askC p)] [] = some (.bool (oddA p), []) :=
  mkS2_eq (enc := fun p : Int × Int => ([AV.agg (askC p)], ([] : List ABlk))) (res := fun p => (.bool (oddA p), [])) (fun x y h => by
    simp only [askC, Prod.mk.injEq, List.cons.injEq, AV.agg.injEq, AV.int.injEq, true_and, and_true] at h
    rw [show x = y from Prod.ext h.1 h.2]) p
noncomputable def odd_specs : NL Spec := [(103, ⟨1, boS okN⟩), (104, ⟨1, boS okM⟩)]
theorem odd_specs_ok : ∀ p ∈ odd_specs, FnC Try.prog p.1 p.2.fn := by
  simp only [odd_specs, List.mem_cons, List.not_mem_nil, or_false]
  rintro p (rfl | rfl)
  · exact nod_ok
  · exact mod_ok
attribute [local simp] odd_specs
theorem odd_ok : FnC Try.prog 179 oddS := by
  refine FnC.walkB 179 (fn := Try.f179) Try.func179 rfl (by kernel_rfl) (fun x b hb => by simp at hb) fun p => ?_
  obtain ⟨n, m⟩ := p
  have c1 := boS_eq okN n
  have c2 := boS_eq okM m
  change W _ (RetB _ _ 0 (.bool (!okN n || !okM m)) []) _ _ ⟨13, [(0, .agg [.int .i64 n, .int .i64 m])], []⟩
  generalize okN n = b1 at *
  generalize okM m = b2 at *
  repeat' (first | refine ZV ?_ | refine ZB tm odd_specs_ok ?_ | refine ZH (fun hb => ?_) (fun hb => ?_) | refine ZJ (by conv => lhs; simp [c1, c2]) ?_ | refine ZA (fun hb => ?_) (fun hb => ?_))
  all_goals exact RetB.raw [] rfl (by conv => lhs; simp) (by decide) (by simp) (by simp) (by simp_all)
noncomputable def strV (e : En) (h : okE e) : ixiW := ⟨178, by simp, by simp, strg e, 117, 41, enC e, enC_refs e, enC_ren e, strS e, str_ok e h, strS_eq e⟩
noncomputable def oddV : ixaV := ⟨179, oddA, oddS, odd_ok, oddS_eq⟩
/-! ### One entry -/
noncomputable def fineB (e : En) : Bool := e.id != 0 && (decide (-1 ≤ e.owner) && (decide (e.owner ≤ 127) && (ascN e.readers && (ascN e.waiting && ((e.owner == -1 || ((e.readers.length : Int) == 0 && zO? e.obj)) && ((oid e.obj == e.id || zO? e.obj) && (!e.waiting.any (strg e) && (!e.queue.any oddA && (decide ((0 : Int) < e.waiting.length) || (e.queue.length : Int) == 0)))))))))
theorem fine_ok : FnC Try.prog 113 (enS fineB) := by
  refine FnC.walk 113 (fn := Try.f113) Try.func113 rfl (by kernel_rfl) fun d => ?_
  obtain ⟨e, he⟩ := d
  obtain ⟨SV, hSV⟩ : ∃ S, S = ixic1 (strV e he) := ⟨_, rfl⟩
  obtain ⟨SW, hSW⟩ : ∃ S, S = ixac0 oddV := ⟨_, rfl⟩
  have sp : ∀ q ∈ ([(180, ⟨1, ilS ascN⟩), (177, ⟨1, zeS⟩), (111, ⟨1, fitS⟩), (92, ⟨3, SV⟩), (107, ⟨3, SW⟩)] : NL Spec), FnC Try.prog q.1 q.2.fn := by
    simp only [List.mem_cons, List.not_mem_nil, or_false]
    rintro q (rfl | rfl | rfl | rfl | rfl)
    · exact asc_ok
    · exact abs_ok
    · exact fit2_ok
    · rw [hSV]; exact ixic1_ok _
    · rw [hSW]; exact ixac0_ok _
  have c1 := ilS_eq ascN e.readers he.1
  have c2 := ilS_eq ascN e.waiting he.2.1
  have c3 := zeS_eq e.obj
  have c4 := fitS_eq e.obj e.id
  have c5 : SV [.list 1 (e.waiting.map iC), .fn (.func 178) [] [.ptr 0 0 0 0]] [{ gen := 0, kind := 2, elem := 117, size := 41, inl := false, rows := [enC e] }] = some (.bool (e.waiting.any (strg e)), [{ gen := 0, kind := 2, elem := 117, size := 41, inl := false, rows := [enC e] }]) := by rw [hSV]; exact ixic1_eq (strV e he) e.waiting (by have := he.2.1; omega)
  have c6 : SW [.list 2 (e.queue.map askC), .fn (.func 179) [] []] [] = some (.bool (e.queue.any oddA), []) := by rw [hSW]; exact ixac0_eq oddV e.queue (by have := he.2.2; omega)
  have cap1 : e.readers.length ≤ 9223372036854775807 := by have := he.1; omega
  have cap2 : e.waiting.length ≤ 9223372036854775807 := by have := he.2.1; omega
  have cap3 : e.queue.length ≤ 9223372036854775807 := by have := he.2.2; omega
  clear hSV hSW
  simp only [enC] at c5
  change W _ (Ret _ _ (.bool (e.id != 0 && (decide (-1 ≤ e.owner) && (decide (e.owner ≤ 127) && (ascN e.readers && (ascN e.waiting && ((e.owner == -1 || ((e.readers.length : Int) == 0 && zO? e.obj)) && ((oid e.obj == e.id || zO? e.obj) && (!e.waiting.any (strg e) && (!e.queue.any oddA && (decide ((0 : Int) < e.waiting.length) || (e.queue.length : Int) == 0))))))))))) []) _ _ ⟨78, [(0, .agg (.int .u64 e.id :: .int .i64 e.owner :: .list 1 (e.readers.map iC) :: (e.obj.cells ++ [.list 1 (e.waiting.map iC), .list 2 (e.queue.map askC)])))], []⟩
  generalize e.waiting.any (strg e) = b5 at *
  generalize e.queue.any oddA = b6 at *
  generalize ascN e.readers = b1 at *
  generalize ascN e.waiting = b2 at *
  generalize zO? e.obj = b3 at *
  generalize (oid e.obj == e.id || b3) = b4 at *
  clear he
  repeat' (first | refine ZV ?_ | refine ZB tm sp ?_ | refine ZH (fun hb => ?_) (fun hb => ?_) | refine ZJ (by conv => lhs; simp [c1, c2, c3, c4, c5, c6, cap1, cap2, cap3]) ?_ | refine ZA (fun hb => ?_) (fun hb => ?_))
  all_goals (first | refine Ret.dataE rfl (by conv => lhs; simp) (by conv => lhs; simp) (by first | rfl | simp [inlT, inlV]) ?_ | refine RetNf.dataE rfl (by conv => lhs; simp) (by conv => lhs; simp) (by first | rfl | simp [inlT, inlV]) ?_)
  all_goals (first | rfl | (simp; done) | (simp_all; done) | (simp_all; omega))
end Go.Abs.Na
namespace Go.Abs.Na
open Go Go.Proofs Go.Abs
set_option maxRecDepth 100000
set_option maxHeartbeats 4000000
set_option linter.unusedSimpArgs false
set_option linter.unusedVariables false
attribute [local simp] instA slice3A slice3C
attribute [-simp] mkv
attribute [local simp] mkv_hd hdA_cons hdA_ob hdA_ob'
noncomputable def goodD (l : List En) (j : Nat) : Bool := match l[j]? with
  | none => true
  | some t => fineB t && match j with
    | 0 => true
    | i + 1 => match l[i]? with
      | some s => decide (s.id < t.id)
      | none => true
noncomputable def validD (nd : Int) (l : List En) : Bool := (List.range l.length).all (goodD l) && okN nd
theorem validD_no {nd : Int} {l : List En} {k : Nat} (h : k < l.length) (hg : goodD l k = false) : validD nd l = false := by
  unfold validD
  have : (List.range l.length).all (goodD l) = false := by
    rw [List.all_eq_false]
    exact ⟨k, List.mem_range.2 h, by simp [hg]⟩
  rw [this, Bool.false_and]
theorem validD_yes {nd : Int} {l : List En} (h : ∀ k, k < l.length → goodD l k = true) : validD nd l = okN nd := by
  unfold validD
  have : (List.range l.length).all (goodD l) = true := by
    rw [List.all_eq_true]
    exact fun k hk => h k (List.mem_range.1 hk)
  rw [this, Bool.true_and]
noncomputable def vdS : SpecFn := mkS (fun d : Drs => [d.v]) fun d => (.bool (validD d.node d.ents), [])
theorem vdS_eq (d : Drs) : vdS [d.v] [] = some (.bool (validD d.node d.ents), []) :=
  mkS_eq (enc := fun d : Drs => [d.v]) (fun x y h => by
    simp only [List.cons.injEq, and_true] at h
    cases Drs.v_inj h
    rfl) d
noncomputable def vdp_specs : NL Spec := [(113, ⟨1, enS fineB⟩), (103, ⟨1, boS okN⟩)]
theorem vdp_specs_ok : ∀ p ∈ vdp_specs, FnC Try.prog p.1 p.2.fn := by
  simp only [vdp_specs, List.mem_cons, List.not_mem_nil, or_false]
  rintro p (rfl | rfl)
  · exact fine_ok
  · exact nod_ok
attribute [local simp] vdp_specs
theorem vdp_ok : FnC Try.prog 48 vdS := by
  refine FnC.walk 48 (fn := Try.f48) Try.func48 rfl (by kernel_rfl) fun d => ?_
  obtain ⟨nd, l, hl, he⟩ := d
  have cn := boS_eq okN nd
  change W _ (Ret _ _ (.bool (validD nd l)) []) _ _ ⟨36, [(0, .agg [.int .i64 nd, .list 41 (l.map enC)])], []⟩
  have cap : l.length ≤ 9223372036854775807 := by omega
  repeat' (first | refine ZV ?_ | refine ZB tm vdp_specs_ok ?_ | refine ZH (fun hb => ?_) (fun hb => ?_) | refine ZJ (by conv => lhs; simp [cap]) ?_ | refine ZA (fun hb => ?_) (fun hb => ?_))
  refine W.loop rfl (ι := { q : Nat × NL ABlk // q.1 ≤ l.length ∧ (∀ j, j < q.1 → goodD l j = true) ∧ lk q.2 32 = some { gen := 1, kind := 2, elem := 95, size := 2, inl := false, rows := [[.int .i64 nd, .list 41 (l.map enC)]] } })
    (fun q => ⟨36, [(1, .ptr 32 1 0 0), (6, .list 41 (l.map enC)), (7, .int .i64 l.length), (8, .int .i64 (q.1.1 : Nat))], q.1.2⟩) (fun q => l.length - q.1.1)
    ⟨(0, _), by simp, fun j hj => absurd hj (by simp), rfl⟩ (AS.le_of rfl ⟨rfl, rfl, rfl, rfl, trivial⟩ (fun _ => rfl)) ?_
  rintro ⟨⟨k, h⟩, hk, hg, h1⟩
  dsimp only at hk hg h1 ⊢
  by_cases hk2 : k = l.length
  · subst hk2
    rw [validD_yes hg]
    repeat' (first | refine ZV ?_ | refine ZB tm vdp_specs_ok ?_ | refine ZH (fun hb => ?_) (fun hb => ?_) | refine ZJ (by conv => lhs; simp [h1, cn]) ?_ | refine ZA (fun hb => ?_) (fun hb => ?_))
    all_goals (first | refine Ret.dataE rfl (by conv => lhs; simp) (by conv => lhs; simp) (by first | rfl | simp [inlT, inlV]) ?_ | refine RetNf.dataE rfl (by conv => lhs; simp) (by conv => lhs; simp) (by first | rfl | simp [inlT, inlV]) ?_)
    all_goals (first | rfl | (simp; done) | (simp_all; done) | (simp_all; omega))
  · have hlt : k < l.length := by omega
    obtain ⟨t, hr⟩ := get_lt hlt
    have hm : (l.map enC)[k]? = some (enC t) := by rw [List.getElem?_map, hr]; rfl
    have q1 : (k : Int) < l.length := by omega
    have q2 : ¬ l.length ≤ k := by omega
    have hw : IntKind.i64.wrap ((k : Int) + 1) = ((k + 1 : Nat) : Int) := w64 (by omega) (by omega)
    have cf := enS_eq fineB t (he t (List.mem_of_getElem? hr))
    simp only [enC] at cf hm
    cases hf : fineB t with
    | false =>
      rw [hf] at cf
      rw [validD_no hlt (by simp [goodD, hr, hf])]
      repeat' (first | refine ZV ?_ | refine ZB tm vdp_specs_ok ?_ | refine ZH (fun hb => ?_) (fun hb => ?_) | refine ZJ (by conv => lhs; simp [q1, q2, hm, h1, cf]) ?_ | refine ZA (fun hb => ?_) (fun hb => ?_))
      all_goals (first | refine Ret.dataE rfl (by conv => lhs; simp) (by conv => lhs; simp) (by first | rfl | simp [inlT, inlV]) ?_ | refine RetNf.dataE rfl (by conv => lhs; simp) (by conv => lhs; simp) (by first | rfl | simp [inlT, inlV]) ?_)
      all_goals (first | rfl | (simp; done) | (simp_all; done) | (simp_all; omega))
    | true =>
      rw [hf] at cf
      by_cases hz : k = 0
      · have hgk : goodD l k = true := by subst hz; simp [goodD, hr, hf]
        have hgn : ∀ j, j < k + 1 → goodD l j = true := fun j hj => by
          have h0 : j = k := by omega
          subst h0
          exact hgk
        have q5 : ¬ (0 : Int) < (k : Int) := by omega
        have q6 : ¬ 0 < k := by omega
        clear hz
        repeat' (first | refine ZV ?_ | refine ZB tm vdp_specs_ok ?_ | refine ZH (fun hb => ?_) (fun hb => ?_) | refine ZJ (by conv => lhs; simp [q1, q2, q5, q6, hm, h1, cf, hw]) ?_ | refine ZA (fun hb => ?_) (fun hb => ?_))
        exact ⟨⟨(k + 1, _), hlt, hgn, by simp [lk_st, h1]⟩, by dsimp only; omega, AS.le_of rfl ⟨rfl, rfl, rfl, rfl, trivial⟩ (fun _ => rfl)⟩
      · obtain ⟨j, hj⟩ : ∃ j, k = j + 1 := ⟨k - 1, by omega⟩
        obtain ⟨s, hs⟩ := get_lt (l := l) (i := j) (by omega)
        have hms : (l.map enC)[j]? = some (enC s) := by rw [List.getElem?_map, hs]; rfl
        simp only [enC] at hms
        have q3 : ¬ l.length ≤ j := by omega
        have q4 : (0 : Int) < (k : Int) := by omega
        have q4' : 0 < k := by omega
        have hd : IntKind.i64.wrap ((k : Int) - 1) = (j : Int) := by rw [w64 (by omega) (by omega)]; omega
        have q1' : (j : Int) < l.length := by omega
        by_cases hc : s.id < t.id
        · have hgk : goodD l k = true := by subst hj; simp [goodD, hr, hf, hs, hc]
          have hc2 : ¬ t.id ≤ s.id := by omega
          have hgn : ∀ i, i < k + 1 → goodD l i = true := fun i hi => by
            by_cases e : i = k
            · subst e
              exact hgk
            · exact hg i (by omega)
          repeat' (first | refine ZV ?_ | refine ZB tm vdp_specs_ok ?_ | refine ZH (fun hb => ?_) (fun hb => ?_) | refine ZJ (by conv => lhs; simp [q1, q1', q2, q3, q4, q4', hm, hms, h1, cf, hw, hd, hc2]) ?_ | refine ZA (fun hb => ?_) (fun hb => ?_))
          exact ⟨⟨(k + 1, _), hlt, hgn, by simp [lk_st, h1]⟩, by dsimp only; omega, AS.le_of rfl ⟨rfl, rfl, rfl, rfl, trivial⟩ (fun _ => rfl)⟩
        · rw [validD_no hlt (by subst hj; simp [goodD, hr, hf, hs, hc])]
          have hc2 : t.id ≤ s.id := by omega
          repeat' (first | refine ZV ?_ | refine ZB tm vdp_specs_ok ?_ | refine ZH (fun hb => ?_) (fun hb => ?_) | refine ZJ (by conv => lhs; simp [q1, q1', q2, q3, q4, q4', hm, hms, h1, cf, hw, hd, hc2]) ?_ | refine ZA (fun hb => ?_) (fun hb => ?_))
          all_goals (first | refine Ret.dataE rfl (by conv => lhs; simp) (by conv => lhs; simp) (by first | rfl | simp [inlT, inlV]) ?_ | refine RetNf.dataE rfl (by conv => lhs; simp) (by conv => lhs; simp) (by first | rfl | simp [inlT, inlV]) ?_)
          all_goals (first | rfl | (simp; done) | (simp_all; done) | (simp_all; omega))
/-! ### Copies -/
theorem clone181_ok : FnC Try.prog 181 (cloneC 3 1 8) := by
  refine FnC.ofV 181 (fn := Try.f181) Try.func181 rfl (by kernel_rfl) fun args B r B' hS => ?_
  unfold cloneC at hS
  split at hS
  · simp only [Option.some.injEq, Prod.mk.injEq] at hS
    obtain ⟨rfl, rfl⟩ := hS
    refine ⟨by simp, ?_⟩
    change V _ (RetM _ _ 0 _ _) _ _ ⟨8, [(0, .nils)], []⟩
    repeat (first | refine NV.seq ?_ | refine NV.blk ?_ | refine V.seq rfl ?_ | refine V.block rfl ?_ | refine V.skip rfl ?_ | refine V.ret rfl ?_ | refine NV.nil ?_ | refine NV.loop ?_ | refine V.exit rfl ?_ | refine XV.seq ?_ | refine XV.loop ?_ | refine XV.hit ?_ | refine XV.pass (by decide) ?_ | refine V.condT rfl (by rfl) ?_ | refine V.condF rfl (by rfl) ?_ | refine V.region tm no_specs rfl (by conv => lhs; simp) fun _ => ?_ | refine V.regionD tm no_specs rfl (by conv => lhs; simp) (by conv => lhs; simp) (by kernel_rfl) fun _ => ?_)
    refine retM2_ok false [] [] ?_
    simp [retM2, movedOK, oldOK, frqT, frqV, frqVs, frqL, frq1, expG, expB3, renB, AV.ren, renL, List.range, List.range.loop, resVs, resV, pack, List.zipWith, List.idxOf?, List.findIdx?, List.findIdx?.go]
  · rename_i s rows
    split at hS
    · rename_i hc
      obtain ⟨rfl, h1, h1', h2⟩ := hc
      simp only [Option.some.injEq, Prod.mk.injEq] at hS
      obtain ⟨rfl, rfl⟩ := hS
      refine ⟨by simp, ?_⟩
      change V _ (RetM _ _ 0 _ _) _ _ ⟨8, [(0, .list 1 rows)], []⟩
      cases rows with
      | nil =>
        refine V.nilCase (t := 0) (s := 1) 0 rfl rfl ?_ ?_
        · repeat (first | refine NV.seq ?_ | refine NV.blk ?_ | refine V.seq rfl ?_ | refine V.block rfl ?_ | refine V.skip rfl ?_ | refine NV.nil ?_ | refine NV.loop ?_ | refine V.exit rfl ?_ | refine XV.seq ?_ | refine XV.loop ?_ | refine XV.hit ?_ | refine XV.pass (by decide) ?_ | refine V.condT rfl (by rfl) ?_ | refine V.condF rfl (by rfl) ?_ | refine V.region tm no_specs rfl (by conv => lhs; simp) fun _ => ?_ | refine V.regionD tm no_specs rfl (by conv => lhs; simp) (by conv => lhs; simp) (by kernel_rfl) fun _ => ?_)
          refine V.phantom (t := 2) 100 3 1 rfl rfl (by decide) ?_
          repeat (first | refine NV.seq ?_ | refine NV.blk ?_ | refine V.seq rfl ?_ | refine V.block rfl ?_ | refine V.skip rfl ?_ | refine V.ret rfl ?_ | refine NV.nil ?_ | refine NV.loop ?_ | refine V.exit rfl ?_ | refine XV.seq ?_ | refine XV.loop ?_ | refine XV.hit ?_ | refine XV.pass (by decide) ?_ | refine V.condT rfl (by rfl) ?_ | refine V.condF rfl (by rfl) ?_ | refine V.region tm no_specs rfl (by conv => lhs; simp) fun _ => ?_ | refine V.regionD tm no_specs rfl (by conv => lhs; simp) (by conv => lhs; simp) (by kernel_rfl) fun _ => ?_)
          simp only [List.length_nil, rowB]
          refine retM2_ok false [100] [0] ?_
          simp [retM2, movedOK, oldOK, frqT, frqV, frqVs, frqL, frq1, expG, expB3, renB, AV.ren, renL, List.range, List.range.loop, resVs, resV, pack, List.zipWith, List.idxOf?, List.findIdx?, List.findIdx?.go]
        · repeat (first | refine NV.seq ?_ | refine NV.blk ?_ | refine V.seq rfl ?_ | refine V.block rfl ?_ | refine V.skip rfl ?_ | refine V.ret rfl ?_ | refine NV.nil ?_ | refine NV.loop ?_ | refine V.exit rfl ?_ | refine XV.seq ?_ | refine XV.loop ?_ | refine XV.hit ?_ | refine XV.pass (by decide) ?_ | refine V.condT rfl (by rfl) ?_ | refine V.condF rfl (by rfl) ?_ | refine V.region tm no_specs rfl (by conv => lhs; simp) fun _ => ?_ | refine V.regionD tm no_specs rfl (by conv => lhs; simp) (by conv => lhs; simp) (by kernel_rfl) fun _ => ?_)
          simp only [List.length_nil, rowB]
          refine retM2_ok false [96] [0] ?_
          simp [retM2, movedOK, oldOK, frqT, frqV, frqVs, frqL, frq1, expG, expB3, renB, AV.ren, renL, List.range, List.range.loop, resVs, resV, pack, List.zipWith, List.idxOf?, List.findIdx?, List.findIdx?.go]
      | cons x rows =>
        simp only [List.length_cons] at h1 h2 h1'
        try simp only [Nat.mul_one] at h1
        repeat (first | refine NV.seq ?_ | refine NV.blk ?_ | refine V.seq rfl ?_ | refine V.block rfl ?_ | refine V.skip rfl ?_ | refine V.ret rfl ?_ | refine NV.nil ?_ | refine NV.loop ?_ | refine V.exit rfl ?_ | refine XV.seq ?_ | refine XV.loop ?_ | refine XV.hit ?_ | refine XV.pass (by decide) ?_ | refine V.condT rfl (by rfl) ?_ | refine V.condF rfl (by rfl) ?_ | refine V.region tm no_specs rfl (by conv => lhs; simp [h1, h2, h1']) fun _ => ?_ | refine V.regionD tm no_specs rfl (by conv => lhs; simp [h1, h2, h1']) (by conv => lhs; simp) (by kernel_rfl) fun _ => ?_)
        simp only [List.length_cons, rowB]
        refine retM2_ok false [96] [0] ?_
        simp [retM2, movedOK, oldOK, frqT, frqV, frqVs, frqL, frq1, expG, expB3, renB, AV.ren, renL, List.range, List.range.loop, resVs, resV, pack, List.zipWith, List.idxOf?, List.findIdx?, List.findIdx?.go]
    · cases hS
  · rename_i len b
    split at hS
    · rename_i hc
      obtain ⟨hb, rfl, h1, h2⟩ := hc
      simp only [Option.some.injEq, Prod.mk.injEq] at hS
      obtain ⟨rfl, rfl⟩ := hS
      rw [okB_eq hb]
      generalize b.rows = rows at h1 h2 ⊢
      refine ⟨by simp, ?_⟩
      change V _ (RetM _ _ 1 _ _) _ _ ⟨8, [(0, .sl 0 0 0 rows.length)], [(0, { gen := 0, kind := 2, elem := 3, size := 1, inl := true, rows })]⟩
      cases rows with
      | nil =>
        refine V.slNil (t := 0) 1 rfl rfl rfl rfl ?_ ?_
        · repeat (first | refine NV.seq ?_ | refine NV.blk ?_ | refine V.seq rfl ?_ | refine V.block rfl ?_ | refine V.skip rfl ?_ | refine NV.nil ?_ | refine NV.loop ?_ | refine V.exit rfl ?_ | refine XV.seq ?_ | refine XV.loop ?_ | refine XV.hit ?_ | refine XV.pass (by decide) ?_ | refine V.condT rfl (by rfl) ?_ | refine V.condF rfl (by rfl) ?_ | refine V.region tm no_specs rfl (by conv => lhs; simp) fun _ => ?_ | refine V.regionD tm no_specs rfl (by conv => lhs; simp) (by conv => lhs; simp) (by kernel_rfl) fun _ => ?_)
          refine V.phantom (t := 2) 100 3 1 rfl rfl (by decide) ?_
          repeat (first | refine NV.seq ?_ | refine NV.blk ?_ | refine V.seq rfl ?_ | refine V.block rfl ?_ | refine V.skip rfl ?_ | refine V.ret rfl ?_ | refine NV.nil ?_ | refine NV.loop ?_ | refine V.exit rfl ?_ | refine XV.seq ?_ | refine XV.loop ?_ | refine XV.hit ?_ | refine XV.pass (by decide) ?_ | refine V.condT rfl (by rfl) ?_ | refine V.condF rfl (by rfl) ?_ | refine V.region tm no_specs rfl (by conv => lhs; simp) fun _ => ?_ | refine V.regionD tm no_specs rfl (by conv => lhs; simp) (by conv => lhs; simp) (by kernel_rfl) fun _ => ?_)
          simp only [List.length_nil, rowB]
          refine retM2_ok false [0, 100] [0, 0] ?_
          simp [retM2, movedOK, oldOK, frqT, frqV, frqVs, frqL, frq1, expG, expB3, renB, AV.ren, renL, List.range, List.range.loop, resVs, resV, pack, List.zipWith, List.idxOf?, List.findIdx?, List.findIdx?.go]
        · repeat (first | refine NV.seq ?_ | refine NV.blk ?_ | refine V.seq rfl ?_ | refine V.block rfl ?_ | refine V.skip rfl ?_ | refine V.ret rfl ?_ | refine NV.nil ?_ | refine NV.loop ?_ | refine V.exit rfl ?_ | refine XV.seq ?_ | refine XV.loop ?_ | refine XV.hit ?_ | refine XV.pass (by decide) ?_ | refine V.condT rfl (by rfl) ?_ | refine V.condF rfl (by rfl) ?_ | refine V.region tm no_specs rfl (by conv => lhs; simp) fun _ => ?_ | refine V.regionD tm no_specs rfl (by conv => lhs; simp) (by conv => lhs; simp) (by kernel_rfl) fun _ => ?_)
          simp only [List.length_nil, rowB]
          refine retM2_ok false [0, 96] [0, 0] ?_
          simp [retM2, movedOK, oldOK, frqT, frqV, frqVs, frqL, frq1, expG, expB3, renB, AV.ren, renL, List.range, List.range.loop, resVs, resV, pack, List.zipWith, List.idxOf?, List.findIdx?, List.findIdx?.go]
      | cons x rows =>
        simp only [List.length_cons] at h1 h2
        try simp only [Nat.mul_one] at h1
        repeat (first | refine NV.seq ?_ | refine NV.blk ?_ | refine V.seq rfl ?_ | refine V.block rfl ?_ | refine V.skip rfl ?_ | refine V.ret rfl ?_ | refine NV.nil ?_ | refine NV.loop ?_ | refine V.exit rfl ?_ | refine XV.seq ?_ | refine XV.loop ?_ | refine XV.hit ?_ | refine XV.pass (by decide) ?_ | refine V.condT rfl (by rfl) ?_ | refine V.condF rfl (by rfl) ?_ | refine V.region tm no_specs rfl (by conv => lhs; simp [h1, h2]) fun _ => ?_ | refine V.regionD tm no_specs rfl (by conv => lhs; simp [h1, h2]) (by conv => lhs; simp) (by kernel_rfl) fun _ => ?_)
        simp only [List.length_cons, rowB]
        refine retM2_ok false [0, 96] [0, 0] ?_
        simp [retM2, movedOK, oldOK, frqT, frqV, frqVs, frqL, frq1, expG, expB3, renB, AV.ren, renL, List.range, List.range.loop, resVs, resV, pack, List.zipWith, List.idxOf?, List.findIdx?, List.findIdx?.go]
    · cases hS
  · cases hS
theorem clone182_ok : FnC Try.prog 182 (cloneC 120 2 16) := by
  refine FnC.ofV 182 (fn := Try.f182) Try.func182 rfl (by kernel_rfl) fun args B r B' hS => ?_
  unfold cloneC at hS
  split at hS
  · simp only [Option.some.injEq, Prod.mk.injEq] at hS
    obtain ⟨rfl, rfl⟩ := hS
    refine ⟨by simp, ?_⟩
    change V _ (RetM _ _ 0 _ _) _ _ ⟨8, [(0, .nils)], []⟩
    repeat (first | refine NV.seq ?_ | refine NV.blk ?_ | refine V.seq rfl ?_ | refine V.block rfl ?_ | refine V.skip rfl ?_ | refine V.ret rfl ?_ | refine NV.nil ?_ | refine NV.loop ?_ | refine V.exit rfl ?_ | refine XV.seq ?_ | refine XV.loop ?_ | refine XV.hit ?_ | refine XV.pass (by decide) ?_ | refine V.condT rfl (by rfl) ?_ | refine V.condF rfl (by rfl) ?_ | refine V.region tm no_specs rfl (by conv => lhs; simp) fun _ => ?_ | refine V.regionD tm no_specs rfl (by conv => lhs; simp) (by conv => lhs; simp) (by kernel_rfl) fun _ => ?_)
    refine retM2_ok false [] [] ?_
    simp [retM2, movedOK, oldOK, frqT, frqV, frqVs, frqL, frq1, expG, expB3, renB, AV.ren, renL, List.range, List.range.loop, resVs, resV, pack, List.zipWith, List.idxOf?, List.findIdx?, List.findIdx?.go]
  · rename_i s rows
    split at hS
    · rename_i hc
      obtain ⟨rfl, h1, h1', h2⟩ := hc
      simp only [Option.some.injEq, Prod.mk.injEq] at hS
      obtain ⟨rfl, rfl⟩ := hS
      refine ⟨by simp, ?_⟩
      change V _ (RetM _ _ 0 _ _) _ _ ⟨8, [(0, .list 2 rows)], []⟩
      cases rows with
      | nil =>
        refine V.nilCase (t := 0) (s := 2) 0 rfl rfl ?_ ?_
        · repeat (first | refine NV.seq ?_ | refine NV.blk ?_ | refine V.seq rfl ?_ | refine V.block rfl ?_ | refine V.skip rfl ?_ | refine NV.nil ?_ | refine NV.loop ?_ | refine V.exit rfl ?_ | refine XV.seq ?_ | refine XV.loop ?_ | refine XV.hit ?_ | refine XV.pass (by decide) ?_ | refine V.condT rfl (by rfl) ?_ | refine V.condF rfl (by rfl) ?_ | refine V.region tm no_specs rfl (by conv => lhs; simp) fun _ => ?_ | refine V.regionD tm no_specs rfl (by conv => lhs; simp) (by conv => lhs; simp) (by kernel_rfl) fun _ => ?_)
          refine V.phantom (t := 2) 100 120 2 rfl rfl (by decide) ?_
          repeat (first | refine NV.seq ?_ | refine NV.blk ?_ | refine V.seq rfl ?_ | refine V.block rfl ?_ | refine V.skip rfl ?_ | refine V.ret rfl ?_ | refine NV.nil ?_ | refine NV.loop ?_ | refine V.exit rfl ?_ | refine XV.seq ?_ | refine XV.loop ?_ | refine XV.hit ?_ | refine XV.pass (by decide) ?_ | refine V.condT rfl (by rfl) ?_ | refine V.condF rfl (by rfl) ?_ | refine V.region tm no_specs rfl (by conv => lhs; simp) fun _ => ?_ | refine V.regionD tm no_specs rfl (by conv => lhs; simp) (by conv => lhs; simp) (by kernel_rfl) fun _ => ?_)
          simp only [List.length_nil, rowB]
          refine retM2_ok false [100] [0] ?_
          simp [retM2, movedOK, oldOK, frqT, frqV, frqVs, frqL, frq1, expG, expB3, renB, AV.ren, renL, List.range, List.range.loop, resVs, resV, pack, List.zipWith, List.idxOf?, List.findIdx?, List.findIdx?.go]
        · repeat (first | refine NV.seq ?_ | refine NV.blk ?_ | refine V.seq rfl ?_ | refine V.block rfl ?_ | refine V.skip rfl ?_ | refine V.ret rfl ?_ | refine NV.nil ?_ | refine NV.loop ?_ | refine V.exit rfl ?_ | refine XV.seq ?_ | refine XV.loop ?_ | refine XV.hit ?_ | refine XV.pass (by decide) ?_ | refine V.condT rfl (by rfl) ?_ | refine V.condF rfl (by rfl) ?_ | refine V.region tm no_specs rfl (by conv => lhs; simp) fun _ => ?_ | refine V.regionD tm no_specs rfl (by conv => lhs; simp) (by conv => lhs; simp) (by kernel_rfl) fun _ => ?_)
          simp only [List.length_nil, rowB]
          refine retM2_ok false [96] [0] ?_
          simp [retM2, movedOK, oldOK, frqT, frqV, frqVs, frqL, frq1, expG, expB3, renB, AV.ren, renL, List.range, List.range.loop, resVs, resV, pack, List.zipWith, List.idxOf?, List.findIdx?, List.findIdx?.go]
      | cons x rows =>
        simp only [List.length_cons] at h1 h2 h1'
        try simp only [Nat.mul_one] at h1
        repeat (first | refine NV.seq ?_ | refine NV.blk ?_ | refine V.seq rfl ?_ | refine V.block rfl ?_ | refine V.skip rfl ?_ | refine V.ret rfl ?_ | refine NV.nil ?_ | refine NV.loop ?_ | refine V.exit rfl ?_ | refine XV.seq ?_ | refine XV.loop ?_ | refine XV.hit ?_ | refine XV.pass (by decide) ?_ | refine V.condT rfl (by rfl) ?_ | refine V.condF rfl (by rfl) ?_ | refine V.region tm no_specs rfl (by conv => lhs; simp [h1, h2, h1']) fun _ => ?_ | refine V.regionD tm no_specs rfl (by conv => lhs; simp [h1, h2, h1']) (by conv => lhs; simp) (by kernel_rfl) fun _ => ?_)
        simp only [List.length_cons, rowB]
        refine retM2_ok false [96] [0] ?_
        simp [retM2, movedOK, oldOK, frqT, frqV, frqVs, frqL, frq1, expG, expB3, renB, AV.ren, renL, List.range, List.range.loop, resVs, resV, pack, List.zipWith, List.idxOf?, List.findIdx?, List.findIdx?.go]
    · cases hS
  · rename_i len b
    split at hS
    · rename_i hc
      obtain ⟨hb, rfl, h1, h2⟩ := hc
      simp only [Option.some.injEq, Prod.mk.injEq] at hS
      obtain ⟨rfl, rfl⟩ := hS
      rw [okB_eq hb]
      generalize b.rows = rows at h1 h2 ⊢
      refine ⟨by simp, ?_⟩
      change V _ (RetM _ _ 1 _ _) _ _ ⟨8, [(0, .sl 0 0 0 rows.length)], [(0, { gen := 0, kind := 2, elem := 120, size := 2, inl := true, rows })]⟩
      cases rows with
      | nil =>
        refine V.slNil (t := 0) 1 rfl rfl rfl rfl ?_ ?_
        · repeat (first | refine NV.seq ?_ | refine NV.blk ?_ | refine V.seq rfl ?_ | refine V.block rfl ?_ | refine V.skip rfl ?_ | refine NV.nil ?_ | refine NV.loop ?_ | refine V.exit rfl ?_ | refine XV.seq ?_ | refine XV.loop ?_ | refine XV.hit ?_ | refine XV.pass (by decide) ?_ | refine V.condT rfl (by rfl) ?_ | refine V.condF rfl (by rfl) ?_ | refine V.region tm no_specs rfl (by conv => lhs; simp) fun _ => ?_ | refine V.regionD tm no_specs rfl (by conv => lhs; simp) (by conv => lhs; simp) (by kernel_rfl) fun _ => ?_)
          refine V.phantom (t := 2) 100 120 2 rfl rfl (by decide) ?_
          repeat (first | refine NV.seq ?_ | refine NV.blk ?_ | refine V.seq rfl ?_ | refine V.block rfl ?_ | refine V.skip rfl ?_ | refine V.ret rfl ?_ | refine NV.nil ?_ | refine NV.loop ?_ | refine V.exit rfl ?_ | refine XV.seq ?_ | refine XV.loop ?_ | refine XV.hit ?_ | refine XV.pass (by decide) ?_ | refine V.condT rfl (by rfl) ?_ | refine V.condF rfl (by rfl) ?_ | refine V.region tm no_specs rfl (by conv => lhs; simp) fun _ => ?_ | refine V.regionD tm no_specs rfl (by conv => lhs; simp) (by conv => lhs; simp) (by kernel_rfl) fun _ => ?_)
          simp only [List.length_nil, rowB]
          refine retM2_ok false [0, 100] [0, 0] ?_
          simp [retM2, movedOK, oldOK, frqT, frqV, frqVs, frqL, frq1, expG, expB3, renB, AV.ren, renL, List.range, List.range.loop, resVs, resV, pack, List.zipWith, List.idxOf?, List.findIdx?, List.findIdx?.go]
        · repeat (first | refine NV.seq ?_ | refine NV.blk ?_ | refine V.seq rfl ?_ | refine V.block rfl ?_ | refine V.skip rfl ?_ | refine V.ret rfl ?_ | refine NV.nil ?_ | refine NV.loop ?_ | refine V.exit rfl ?_ | refine XV.seq ?_ | refine XV.loop ?_ | refine XV.hit ?_ | refine XV.pass (by decide) ?_ | refine V.condT rfl (by rfl) ?_ | refine V.condF rfl (by rfl) ?_ | refine V.region tm no_specs rfl (by conv => lhs; simp) fun _ => ?_ | refine V.regionD tm no_specs rfl (by conv => lhs; simp) (by conv => lhs; simp) (by kernel_rfl) fun _ => ?_)
          simp only [List.length_nil, rowB]
          refine retM2_ok false [0, 96] [0, 0] ?_
          simp [retM2, movedOK, oldOK, frqT, frqV, frqVs, frqL, frq1, expG, expB3, renB, AV.ren, renL, List.range, List.range.loop, resVs, resV, pack, List.zipWith, List.idxOf?, List.findIdx?, List.findIdx?.go]
      | cons x rows =>
        simp only [List.length_cons] at h1 h2
        try simp only [Nat.mul_one] at h1
        repeat (first | refine NV.seq ?_ | refine NV.blk ?_ | refine V.seq rfl ?_ | refine V.block rfl ?_ | refine V.skip rfl ?_ | refine V.ret rfl ?_ | refine NV.nil ?_ | refine NV.loop ?_ | refine V.exit rfl ?_ | refine XV.seq ?_ | refine XV.loop ?_ | refine XV.hit ?_ | refine XV.pass (by decide) ?_ | refine V.condT rfl (by rfl) ?_ | refine V.condF rfl (by rfl) ?_ | refine V.region tm no_specs rfl (by conv => lhs; simp [h1, h2]) fun _ => ?_ | refine V.regionD tm no_specs rfl (by conv => lhs; simp [h1, h2]) (by conv => lhs; simp) (by kernel_rfl) fun _ => ?_)
        simp only [List.length_cons, rowB]
        refine retM2_ok false [0, 96] [0, 0] ?_
        simp [retM2, movedOK, oldOK, frqT, frqV, frqVs, frqL, frq1, expG, expB3, renB, AV.ren, renL, List.range, List.range.loop, resVs, resV, pack, List.zipWith, List.idxOf?, List.findIdx?, List.findIdx?.go]
    · cases hS
  · cases hS
theorem clnI (l : List Int) (h : l.length ≤ 9100) : cloneC 3 1 8 [.list 1 (l.map iC)] [] = some (.sl 0 0 0 l.length, [{ gen := 0, kind := 2, elem := 3, size := 1, inl := true, rows := l.map iC }]) := by
  have e1 : l.length * 8 ≤ 140737488355328 := by omega
  have e2 : l.length ≤ 9223372036854775807 := by omega
  have e3 : l.length ≤ maxLen := by simp only [maxLen]; omega
  simp [cloneC, e1, e2, e3, rowB]
theorem clnA (l : List (Int × Int)) (h : l.length ≤ 9100) : cloneC 120 2 16 [.list 2 (l.map askC)] [] = some (.sl 0 0 0 l.length, [{ gen := 0, kind := 2, elem := 120, size := 2, inl := true, rows := l.map askC }]) := by
  have e1 : l.length * 16 ≤ 140737488355328 := by omega
  have e2 : l.length ≤ 9223372036854775807 := by omega
  have e3 : l.length ≤ maxLen := by simp only [maxLen]; omega
  simp [cloneC, e1, e2, e3, rowB]
/-- An entry whose lists lie in blocks of their own. -/
def enX (e : En) (a b c : AV) : List AV := .int .u64 e.id :: .int .i64 e.owner :: a :: (e.obj.cells ++ [b, c])
noncomputable def ownS : SpecFn := mkS2 (fun e : {e : En // okE e} => ([.agg (enC e.1)], [])) fun e => (.agg (enX e.1 (.sl 0 0 0 e.1.readers.length) (.sl 1 0 0 e.1.waiting.length) (.sl 2 0 0 e.1.queue.length)), [ixiB e.1.readers, ixiB e.1.waiting, ixaB e.1.queue])
theorem ownS_eq (e : En) (h : okE e) : ownS [.agg (enC e)] [] = some (.agg (enX e (.sl 0 0 0 e.readers.length) (.sl 1 0 0 e.waiting.length) (.sl 2 0 0 e.queue.length)), [ixiB e.readers, ixiB e.waiting, ixaB e.queue]) :=
  mkS2_eq (enc := fun e : {e : En // okE e} => ([AV.agg (enC e.1)], ([] : List ABlk))) (res := fun e => (.agg (enX e.1 (.sl 0 0 0 e.1.readers.length) (.sl 1 0 0 e.1.waiting.length) (.sl 2 0 0 e.1.queue.length)), [ixiB e.1.readers, ixiB e.1.waiting, ixaB e.1.queue])) (fun x y h => by
    simp only [Prod.mk.injEq, List.cons.injEq, AV.agg.injEq, and_true] at h
    rw [enC_inj h]) ⟨e, h⟩
noncomputable def own_specs : NL Spec := [(181, ⟨3, cloneC 3 1 8⟩), (182, ⟨3, cloneC 120 2 16⟩), (56, ⟨1, cobS⟩)]
theorem own_specs_ok : ∀ p ∈ own_specs, FnC Try.prog p.1 p.2.fn := by
  simp only [own_specs, List.mem_cons, List.not_mem_nil, or_false]
  rintro p (rfl | rfl | rfl)
  · exact clone181_ok
  · exact clone182_ok
  · exact cob_ok
attribute [local simp] own_specs
theorem own_ok : FnC Try.prog 116 ownS := by
  refine FnC.walkB 116 (fn := Try.f116) Try.func116 rfl (by kernel_rfl) (fun x b hb => by simp at hb) fun e => ?_
  obtain ⟨⟨id, ow, rd, o, wt, q⟩, hrd, hwt, hq⟩ := e
  dsimp only at hrd hwt hq
  have c1 := clnI rd (by omega)
  have c2 := clnI wt (by omega)
  have c3 := clnA q (by omega)
  have c4 := cobS_eq o
  change W _ (RetB _ _ 0 (.agg (.int .u64 id :: .int .i64 ow :: .sl 0 0 0 rd.length :: (o.cells ++ [.sl 1 0 0 wt.length, .sl 2 0 0 q.length]))) [ixiB rd, ixiB wt, ixaB q]) _ _ ⟨20, [(0, .agg (.int .u64 id :: .int .i64 ow :: .list 1 (rd.map iC) :: (o.cells ++ [.list 1 (wt.map iC), .list 2 (q.map askC)])))], []⟩
  repeat' (first | refine ZV ?_ | refine ZB tm own_specs_ok ?_ | refine ZH (fun hb => ?_) (fun hb => ?_) | refine ZJ (by conv => lhs; simp [c1, c2, c3, c4]) ?_ | refine ZA (fun hb => ?_) (fun hb => ?_))
  exact RetB.raw [96, 144, 192] rfl (by conv => lhs; simp) (by decide) (by simp) (by simp [ixiB, ixaB]) (by simp [List.idxOf?, List.findIdx?, List.findIdx?.go])
end Go.Abs.Na
