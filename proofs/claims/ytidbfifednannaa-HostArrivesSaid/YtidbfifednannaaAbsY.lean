/- From a reading of plain data to abstract values. Conditions: the types are integers, bools, strings, and structs, arrays and slices of such. -/
import Derived.Test.YtidbfifednannaaAbsU
import Derived.Deep.Slices
import Derived.OpenShut
namespace Go.Abs
open Go Go.ChangeShapes Go.WideShapes Go.Deep
set_option linter.unusedVariables false
set_option linter.unusedSimpArgs false

def tileB (P : Program) : List Field → Nat → Nat → Bool
  | [], o, tot => o == tot
  | f :: r, o, tot => f.offset == o && tileB P r (o + P.cellsOf f.type) tot
/-- Types of plain data. -/
def plainT (P : Program) : Nat → TypeId → Bool
  | 0, _ => false
  | n + 1, t => match P.underlying t with
    | some .bool => P.cellsOf t == 1
    | some (.int _) => P.cellsOf t == 1
    | some .string => P.cellsOf t == 1
    | some (.slice e) => P.cellsOf t == 1 && decide (0 < P.cellsOf e) && plainT P n e
    | some (.struct fs) => tileB P fs.toList 0 (P.cellsOf t) && fs.toList.all fun f => plainT P n f.type
    | some (.array m e) => P.cellsOf t == m * P.cellsOf e && plainT P n e
    | _ => false
def TyFs (q : TypeId → List AV → Prop) : List TypeId → List AV → Prop
  | [], xs => xs = []
  | t :: r, xs => ∃ a b, xs = a ++ b ∧ q t a ∧ TyFs q r b
/-- The cells of a value of a type. -/
def TyR (P : Program) : Nat → TypeId → List AV → Prop
  | 0, _, _ => False
  | n + 1, t, xs => match P.underlying t with
    | some .bool => ∃ b, xs = [.bool b]
    | some (.int k) => ∃ m, xs = [.int k m] ∧ (Lit.int k m).wf = true
    | some .string => ∃ s : ByteArray, xs = [.str s] ∧ s.size ≤ maxLen
    | some (.slice e) => ∃ rows, xs = [.list (P.cellsOf e) rows] ∧ rows.length ≤ maxLen ∧ ∀ row ∈ rows, TyR P n e row
    | some (.struct fs) => TyFs (TyR P n) (fs.toList.map (·.type)) xs
    | some (.array m e) => TyFs (TyR P n) (List.replicate m e) xs
    | _ => False

theorem RepIL.append {w : World} {I : Nat → Prop} : ∀ {xs ys : List AV} {us vs : List Value}, RepIL w I xs us → RepIL w I ys vs → RepIL w I (xs ++ ys) (us ++ vs)
  | [], ys, us, vs, h1, h2 => by
    simp only [RepIL] at h1
    subst h1
    exact h2
  | x :: r, ys, us, vs, h1, h2 => by
    simp only [RepIL] at h1
    obtain ⟨v, us', rfl, h3, h4⟩ := h1
    simp only [List.cons_append, RepIL]
    exact ⟨v, us' ++ vs, rfl, h3, RepIL.append h4 h2⟩
theorem pieces_rep {w : World} {I : Nat → Prop} {q : TypeId → List AV → Prop} {size : TypeId → Nat} {cs : List Value} : ∀ (ps : List (TypeId × Nat)) (o : Nat), (∀ p ∈ ps, ∃ xs, q p.1 xs ∧ RepIL w I xs ((cs.drop p.2).take (size p.1))) →
    (∀ (i : Nat) (p : TypeId × Nat), ps[i]? = some p → p.2 = o + ((ps.take i).map fun p => size p.1).sum) → o + (ps.map fun p => size p.1).sum = cs.length → ∃ xs, TyFs q (ps.map (·.1)) xs ∧ RepIL w I xs (cs.drop o)
  | [], o, _, _, hl => by
    refine ⟨[], rfl, ?_⟩
    simp only [List.map_nil, List.sum_nil, Nat.add_zero] at hl
    rw [List.drop_of_length_le (by omega)]
    simp [RepIL]
  | p :: r, o, h, ho, hl => by
    obtain ⟨a, h1, h2⟩ := h p (by simp)
    have hp := ho 0 p (by simp)
    simp only [List.take_zero, List.map_nil, List.sum_nil, Nat.add_zero] at hp
    obtain ⟨b, h3, h4⟩ := pieces_rep r (o + size p.1) (fun p hp => h p (by simp [hp])) (fun i q' hq => by
      have := ho (i + 1) q' (by simpa using hq)
      simp only [List.take_succ_cons, List.map_cons, List.sum_cons] at this
      omega) (by simp only [List.map_cons, List.sum_cons] at hl; omega)
    refine ⟨a ++ b, ⟨a, b, rfl, h1, h3⟩, ?_⟩
    rw [hp] at h2
    have := RepIL.append h2 h4
    rwa [← List.drop_drop, List.take_append_drop] at this
theorem list_choice {α : Type} {Q : Nat → α → Prop} : ∀ (n : Nat), (∀ i, i < n → ∃ x, Q i x) → ∃ l : List α, l.length = n ∧ ∀ i x, l[i]? = some x → Q i x
  | 0, _ => ⟨[], rfl, by simp⟩
  | n + 1, h => by
    obtain ⟨l, h1, h2⟩ := list_choice n fun i hi => h i (by omega)
    obtain ⟨x, hx⟩ := h n (by omega)
    refine ⟨l ++ [x], by simp [h1], fun i y hy => ?_⟩
    by_cases hi : i < n
    · rw [List.getElem?_append_left (by omega)] at hy
      exact h2 i y hy
    · rw [List.getElem?_append_right (by omega)] at hy
      have : i = n := by
        have := (List.getElem?_eq_some_iff.1 hy).1
        simp only [List.length_cons, List.length_nil] at this
        omega
      subst this
      simp only [h1, Nat.sub_self, List.getElem?_cons_zero, Option.some.injEq] at hy
      subst hy
      exact hx
theorem tile_sum {P : Program} : ∀ (fs : List Field) (o tot : Nat), tileB P fs o tot = true → o + (fs.map fun f => P.cellsOf f.type).sum = tot ∧ ∀ (i : Nat) (f : Field), fs[i]? = some f → f.offset = o + ((fs.take i).map fun f => P.cellsOf f.type).sum
  | [], o, tot, h => by
    simp only [tileB, beq_iff_eq] at h
    simp [h]
  | f :: r, o, tot, h => by
    simp only [tileB, Bool.and_eq_true, beq_iff_eq] at h
    obtain ⟨h1, h2⟩ := tile_sum r _ _ h.2
    refine ⟨by simp only [List.map_cons, List.sum_cons]; omega, fun i g hg => ?_⟩
    cases i with
    | zero =>
      simp only [List.getElem?_cons_zero, Option.some.injEq] at hg
      subst hg
      simp [h.1]
    | succ i =>
      simp only [List.getElem?_cons_succ] at hg
      have := h2 i g hg
      simp only [List.take_succ_cons, List.map_cons, List.sum_cons]
      omega

theorem RepIL.len {w : World} {I : Nat → Prop} : ∀ {xs : List AV} {vs : List Value}, RepIL w I xs vs → xs.length = vs.length
  | [], _, h => by simp only [RepIL] at h; subst h; rfl
  | x :: r, _, h => by
    simp only [RepIL] at h
    obtain ⟨v, vs', rfl, _, h2⟩ := h
    simp [RepIL.len h2]
theorem RepIL.at {w : World} {I : Nat → Prop} : ∀ {xs : List AV} {vs : List Value}, RepIL w I xs vs → ∀ {i : Nat} {x : AV}, xs[i]? = some x → ∃ v, vs[i]? = some v ∧ RepI w I x v
  | [], _, _, i, x, hx => by simp at hx
  | x :: r, _, h, i, y, hy => by
    simp only [RepIL] at h
    obtain ⟨v, vs', rfl, h1, h2⟩ := h
    cases i with
    | zero =>
      simp only [List.getElem?_cons_zero, Option.some.injEq] at hy
      subst hy
      exact ⟨v, rfl, h1⟩
    | succ i => simpa using RepIL.at h2 (by simpa using hy)
theorem sum_rep (n c : Nat) : (List.replicate n c).sum = n * c := by
  induction n with
  | zero => simp
  | succ n ih => rw [List.replicate_succ, List.sum_cons, ih, Nat.succ_mul]; omega
theorem add_block (a : Addr) (k : Nat) : (a.add k).block = a.block := by
  unfold Addr.add
  split <;> simp
/-- Values of plain data take one cell each. -/
def AV.plain : AV → Bool
  | .bool _ | .int _ _ | .str _ | .list _ _ => true
  | _ => false
theorem plain_one {w : World} {I : Nat → Prop} {x : AV} {v : Value} (h : x.plain = true) (hx : RepI w I x v) : v.oneCell' = true := by
  cases x <;> simp only [AV.plain] at h <;> try (cases h)
  all_goals simp only [RepI] at hx
  case list size rows => rcases hx with ⟨rfl, _⟩ | ⟨a, cap, rfl, _⟩ <;> rfl
  all_goals (subst hx; rfl)
theorem TyFs.all {q : TypeId → List AV → Prop} (hq : ∀ t xs, q t xs → xs.all AV.plain = true) : ∀ (ts : List TypeId) (xs : List AV), TyFs q ts xs → xs.all AV.plain = true
  | [], xs, h => by simp only [TyFs] at h; subst h; rfl
  | t :: r, xs, h => by
    simp only [TyFs] at h
    obtain ⟨a, b, rfl, h1, h2⟩ := h
    rw [List.all_append, hq t a h1, TyFs.all hq r b h2]
    rfl
theorem TyR.all {P : Program} : ∀ (n : Nat) (t : TypeId) (xs : List AV), TyR P n t xs → xs.all AV.plain = true
  | 0, _, _, h => h.elim
  | n + 1, t, xs, h => by
    unfold TyR at h
    split at h
    · obtain ⟨b, rfl⟩ := h; rfl
    · obtain ⟨m, rfl, _⟩ := h; rfl
    · obtain ⟨s, rfl, _⟩ := h; rfl
    · obtain ⟨rows, rfl, _⟩ := h; rfl
    · exact TyFs.all (fun t xs h => TyR.all n t xs h) _ _ h
    · exact TyFs.all (fun t xs h => TyR.all n t xs h) _ _ h
    · exact h.elim

theorem trod_rep {H : Type} {enc : TypeId × Value → H} {P : Program} {w : World} {base : Nat} {spare : Nat → Bool} {held : Bool} : ∀ (n : Nat) (t : TypeId) (fuel : Nat) (cs : List Value) (x : DataW H × List MemPlace), plainT P n t = true →
    DataW.trod enc P w base spare held fuel t cs = some x → cs.length = P.cellsOf t ∧ ∃ xs, TyR P n t xs ∧ RepIL w (fun b => b < w.heap.size) xs cs
  | 0, _, _, _, _, h, _ => by simp [plainT] at h
  | n + 1, t, fuel, cs, x, h, ht => by
    unfold plainT at h
    unfold TyR
    split at h
    · rename_i hu
      obtain ⟨b, rfl, _⟩ := DataW.trod_bool hu ht
      exact ⟨by simpa using Eq.symm (beq_iff_eq.1 h), [.bool b], ⟨b, rfl⟩, by simp [RepIL, RepI]⟩
    · rename_i k hu
      obtain ⟨m, rfl, _, hwf⟩ := DataW.trod_int hu ht
      exact ⟨by simpa using Eq.symm (beq_iff_eq.1 h), [.int k m], ⟨m, rfl, hwf⟩, by simp [RepIL, RepI]⟩
    · rename_i hu
      obtain ⟨s, rfl, _, hs⟩ := DataW.trod_string hu ht
      exact ⟨by simpa using Eq.symm (beq_iff_eq.1 h), [.str s], ⟨s, rfl, hs⟩, by simp [RepIL, RepI]⟩
    · rename_i e hu
      simp only [Bool.and_eq_true, beq_iff_eq, decide_eq_true_eq] at h
      obtain ⟨⟨h1, h2⟩, h3⟩ := h
      rcases open_slice hu ht with ⟨rfl, _⟩ | ⟨a, len, cap, m, k, D, Pl, rfl, hb, hl, hm, hmm, _, hel⟩
      · exact ⟨by simpa using h1.symm, [.list (P.cellsOf e) []], ⟨[], rfl, Nat.zero_le _, by simp⟩, by simp [RepIL, RepI]⟩
      · have hlm : len ≤ m := by rw [hmm]; split <;> omega
        have hspot0 : 0 < len → a.spot = none ∧ a.block < w.heap.size := fun h0 => by
          obtain ⟨cs', hc, ht'⟩ := hel 0 (by omega)
          obtain ⟨_, hcl, hat⟩ := World.cells?_some hc
          have h0 : w.cell? ((a.add (0 * P.cellsOf e)).add 0) = cs'[0]? := hat 0 h2
          have ha : (a.add (0 * P.cellsOf e)).add 0 = a := by simp [Addr.add]
          rw [ha, List.getElem?_eq_getElem (by omega)] at h0
          unfold World.cell? at h0
          split at h0
          · rename_i c _ _ hbk
            split at h0
            · cases h0
            · rename_i hsp
              exact ⟨by simpa using hsp, (Array.getElem?_eq_some_iff.1 hbk).1⟩
          · cases h0
        obtain ⟨rows, r1, r2⟩ := list_choice (Q := fun i row => TyR P n e row ∧ row.length = P.cellsOf e ∧ (a.spot = none ∧ a.block < w.heap.size) ∧ RepC w (fun b => b < w.heap.size) row a.block (a.off + i * P.cellsOf e)) len (fun i hi => by
          obtain ⟨cs', hc, ht'⟩ := hel i (by omega)
          obtain ⟨q1, xs, q2, q3⟩ := trod_rep n e k cs' _ h3 ht'
          obtain ⟨_, hcl, hat⟩ := World.cells?_some hc
          have hlen : xs.length = P.cellsOf e := by rw [q3.len, hcl]
          have hcell : ∀ j, j < P.cellsOf e → w.cell? ((a.add (i * P.cellsOf e)).add j) = cs'[j]? := hat
          have hspot : a.spot = none ∧ a.block < w.heap.size := hspot0 (by omega)
          refine ⟨xs, q2, hlen, hspot, RepC.of_get fun j y hy => ?_⟩
          obtain ⟨v, hv, hyv⟩ := q3.at hy
          have hj : j < P.cellsOf e := by have := (List.getElem?_eq_some_iff.1 hy).1; omega
          have hj2 := hcell j hj
          rw [hv] at hj2
          refine ⟨v, ?_, ?_, hyv⟩
          · rw [← hj2]
            congr 1
            obtain ⟨ab, ao, asp⟩ := a
            simp only at hspot
            rw [hspot.1]
            unfold Addr.add
            split <;> split <;> simp <;> omega
          · exact plain_one (List.all_eq_true.1 (TyR.all n e xs q2) y (List.mem_of_getElem? hy)) hyv)
        refine ⟨by simpa using h1.symm, [.list (P.cellsOf e) rows], ⟨rows, rfl, by omega, fun row hrow => ?_⟩, ?_⟩
        · obtain ⟨i, hi⟩ := List.mem_iff_getElem?.1 hrow
          exact (r2 i row hi).1
        · simp only [RepIL, RepI]
          refine ⟨_, [], rfl, .inr ⟨a, cap, by rw [r1], by omega, hm, fun hne => ?_, RepRows.of_get fun i row hi => ⟨(r2 i row hi).2.1, (r2 i row hi).2.2.2⟩⟩, rfl⟩
          match rows, hne, r2 with
          | row :: _, _, r2 => exact (r2 0 row (by simp)).2.2.1
    · rename_i fs hu
      simp only [Bool.and_eq_true, List.all_eq_true] at h
      obtain ⟨ys, m, rfl, rfl, hlen, hyl, hf⟩ := DataW.trod_struct hu ht
      obtain ⟨t1, t2⟩ := tile_sum _ _ _ h.1
      refine ⟨hlen, ?_⟩
      have := pieces_rep (w := w) (I := fun b => b < w.heap.size) (q := TyR P n) (size := P.cellsOf) (cs := cs) (fs.toList.map fun f => (f.type, f.offset)) 0 (fun p hp => by
          obtain ⟨f, hfm, rfl⟩ := List.mem_map.1 hp
          obtain ⟨i, hi⟩ := List.mem_iff_getElem?.1 hfm
          have hfi := hf i f (by simpa using hi)
          have hil : i < ys.length := by
            have := (List.getElem?_eq_some_iff.1 hi).1
            simp only [Array.length_toList] at this
            omega
          rw [List.getElem?_eq_getElem hil] at hfi
          obtain ⟨_, xs, q1, q2⟩ := trod_rep n f.type m _ _ (h.2 f hfm) hfi
          exact ⟨xs, q1, q2⟩)
        (fun i p hp => by
          simp only [List.getElem?_map, Option.map_eq_some_iff] at hp
          obtain ⟨f, hfi, rfl⟩ := hp
          have := t2 i f hfi
          simpa [List.map_take, List.map_map, Function.comp_def] using this)
        (by rw [hlen]; simpa [List.map_map, Function.comp_def] using t1)
      obtain ⟨xs, q1, q2⟩ := this
      refine ⟨xs, by simpa [List.map_map, Function.comp_def] using q1, by simpa using q2⟩
    · rename_i k e hu
      simp only [Bool.and_eq_true, beq_iff_eq] at h
      obtain ⟨ys, m, rfl, rfl, hlen, hyl, hf⟩ := DataW.trod_array hu ht
      refine ⟨hlen, ?_⟩
      have := pieces_rep (w := w) (I := fun b => b < w.heap.size) (q := TyR P n) (size := P.cellsOf) (cs := cs) ((List.range k).map fun i => (e, i * P.cellsOf e)) 0 (fun p hp => by
          obtain ⟨i, hi, rfl⟩ := List.mem_map.1 hp
          have hik : i < k := by simpa using hi
          have hfi := hf i hik
          rw [List.getElem?_eq_getElem (by omega)] at hfi
          obtain ⟨_, xs, q1, q2⟩ := trod_rep n e m _ _ h.2 hfi
          exact ⟨xs, q1, q2⟩)
        (fun i p hp => by
          simp only [List.getElem?_map, Option.map_eq_some_iff] at hp
          obtain ⟨j, hj, rfl⟩ := hp
          have hlt : i < k := by have := (List.getElem?_eq_some_iff.1 hj).1; simpa using this
          rw [List.getElem?_range (by have := (List.getElem?_eq_some_iff.1 hj).1; simpa using this)] at hj
          simp only [Option.some.injEq] at hj
          subst hj
          simp only [List.map_take, List.map_map, Function.comp_def, List.map_const', List.length_range, List.take_replicate, sum_rep, Nat.zero_add]
          simp [Nat.min_eq_left (Nat.le_of_lt hlt)])
        (by rw [hlen, h.1]; simp [List.map_map, Function.comp_def, List.map_const', sum_rep])
      obtain ⟨xs, q1, q2⟩ := this
      refine ⟨xs, by simpa [List.map_map, Function.comp_def, List.map_const'] using q1, by simpa using q2⟩
    · cases h
end Go.Abs
