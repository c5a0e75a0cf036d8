/- Noting a talk as the reference does. Conditions: none. -/
import Derived.Test.YtkalkcgbecbgpaaPo1
import Derived.Test.YtkalkcgbecbgpaaPo2
namespace Go.Abs.Po
open Go Go.Proofs Go.Abs
set_option maxRecDepth 100000
set_option maxHeartbeats 4000000
set_option linter.unusedSimpArgs false
set_option linter.unusedVariables false
structure Tk where
  a : Int
  b : Int
  c : Int
def Tk.cells (x : Tk) : List AV := [.int .u64 x.a, .int .u64 x.b, .int .i64 x.c]
theorem Tk.inj (x y : Tk) (h : x.cells = y.cells) : x = y := by
  cases x; cases y
  simp only [Tk.cells, List.cons.injEq, AV.int.injEq, true_and, and_true] at h
  obtain ⟨rfl, rfl, rfl⟩ := h
  rfl
def cmpI (x y : Int) : Int := if x < y then -1 else if y < x then 1 else 0
def byP (x y : Tk) : Int := if cmpI x.a y.a = 0 then cmpI x.b y.b else cmpI x.a y.a
def pq (g : Bool) (t x : Tk) : Bool := if g then byP x t == 0 else decide (0 < byP x t)
theorem capTL {n : Nat} (h : n ≤ 200) : n ≤ 9223372036854775807 := by omega
theorem capTM {n : Nat} (h : n ≤ 200) : n ≤ 9223372036854775806 := by omega
theorem capTB {n : Nat} (h : n ≤ 200) : n * 24 ≤ 140737488355328 := by omega
def Tks := { l : List Tk // l.length ≤ 200 }
def ins (l : List Tk) (i : Nat) (t : Tk) : List Tk := l.take i ++ t :: l.drop i
def lo (x y : Int) : Int := if y < x then y else x
def hi (x y : Int) : Int := if x < y then y else x
def upT (x : Tk) : Tk := ⟨x.a, x.b, IntKind.i64.wrap ((if 1048575 < x.c then 1048575 else x.c) + 1)⟩
theorem mod_map (l : List Tk) {k : Nat} (hk : k < l.length) : (l.map Tk.cells).set k (upT l[k]).cells = (l.modify k upT).map Tk.cells := by
  apply List.ext_getElem?
  intro j
  rw [List.getElem?_set, List.getElem?_map, List.getElem?_map, List.getElem?_modify]
  by_cases e : k = j
  · subst e
    simp [hk]
  · simp [e]
def at_ (l : List Tk) (p : Tk → Bool) : Nat := (l.findIdx? p).getD l.length
def note (l : List Tk) (a b : Int) : List Tk :=
  if lo a b = hi a b ∨ lo a b = 0 then l else
  match l.findIdx? (pq true ⟨lo a b, hi a b, 1⟩) with
  | some i => l.modify i upT
  | none => if 128 ≤ l.length then l else ins l (at_ l (pq false ⟨lo a b, hi a b, 1⟩)) ⟨lo a b, hi a b, 1⟩
theorem note_len (l : List Tk) (a b : Int) (h : l.length ≤ 200) : (note l a b).length ≤ 200 := by
  unfold note
  split
  · exact h
  · split
    · simpa using h
    · split
      · exact h
      · simp [ins]; omega
theorem ins_len (l : List Tk) {i : Nat} {t : Tk} (h : i ≤ l.length) : (ins l i t).length = l.length + 1 := by simp [ins]; omega
/-! ### The walk -/
theorem pq_true (x : Tk) (a b c : Int) : pq true ⟨a, b, c⟩ x = (x.a == a && x.b == b) := by
  simp only [pq, byP, cmpI, if_true]
  by_cases h1 : x.a = a
  · subst h1
    simp only [Int.lt_irrefl, if_false, if_true, BEq.rfl, Bool.true_and]
    by_cases h2 : x.b = b
    · subst h2; simp
    · by_cases h3 : x.b < b
      · simp [h2, h3]
      · have : b < x.b := by omega
        simp [h2, h3, this]
  · by_cases h3 : x.a < a
    · simp [h1, h3]
    · have : a < x.a := by omega
      simp [h1, h3, this]
theorem pq_false (x : Tk) (a b c : Int) : pq false ⟨a, b, c⟩ x = !(decide (x.a < a) || (x.a == a && decide (x.b ≤ b))) := by
  simp only [pq, byP, cmpI]
  by_cases h1 : x.a = a
  · subst h1
    simp only [Int.lt_irrefl, if_false, if_true, BEq.rfl, Bool.true_and]
    by_cases h3 : x.b < b
    · have : x.b ≤ b := by omega
      simp [h3, this]
    · by_cases h4 : b < x.b
      · have : ¬ x.b ≤ b := by omega
        simp [h3, h4, this]
      · have : x.b ≤ b := by omega
        simp [h3, h4, this]
  · by_cases h3 : x.a < a
    · simp [h1, h3]
    · have : a < x.a := by omega
      simp [h1, h3, this]
attribute [local simp] runL stepA execA_eq skipA run_ret run_fail run_get run_put run_asm num lk st lk_st putA AS.ev ofValue ofFlat mkv splice fieldAddrA buildA fillA runF gdst pickA unOpA extractA resVs resV pack frzT inlT inlV frzV frzVs frzL frz1 newId AV.cellsOf AV.flat AV.flat2 specOf loadA_runR capA copyA copyTo srcA sliceCA slice3A appendZA extA AV.place lenCA clearA clearTo expG expB3 List.zipWith renL fF handB renB AV.ren backF backL idsOf freshIds refsL refsB AV.refs List.range List.range.loop placesA sliceRows rowsOf convertA sliceArrA sliceA bndA nilCheckA arrayAtA mmA lookupA keyOf keyOK findA keyEqA foundA makeMapA mapUpdateA appendA rowsA indexA partA fieldA retE2 frqT frqV frqVs frqL frq1 reachE blkRefs outE nodupE firstE seqO expB2 expF slice3A slice3C slice3W bndA firstRows_eq
def encNr (x : Tks × Int × Int) : List AV := [.list 3 (x.1.1.map Tk.cells), .int .u64 x.2.1, .int .u64 x.2.2]
theorem encNr_inj {β : Type} {f : Tks × Int × Int → β} : ∀ x y, encNr x = encNr y → f x = f y := fun x y h => by
  obtain ⟨l, a, b⟩ := x
  obtain ⟨l', a', b'⟩ := y
  simp only [encNr, Prod.mk.injEq, List.cons.injEq, AV.list.injEq, AV.int.injEq, true_and, and_true] at h
  obtain ⟨h1, rfl, rfl⟩ := h
  rw [Subtype.ext (map_inj Tk.inj h1)]
noncomputable def noterS : SpecFn := mkS encNr fun x => (.list 3 ((note x.1.1 x.2.1 x.2.2).map Tk.cells), [])
theorem noter_ok : FnC Try.prog 28 noterS := by
  refine FnC.walk 28 (fn := Try.f28) Try.func28 rfl (by kernel_rfl) fun x => ?_
  obtain ⟨⟨l, hl⟩, a, b⟩ := x
  change W _ _ _ _ ⟨110, [(0, .list 3 (l.map Tk.cells)), (1, .int .u64 a), (2, .int .u64 b)], []⟩
  repeat (first | refine N.seq ?_ | refine N.blk ?_ | refine W.seqR rfl rfl ?_ | refine W.skip rfl ?_ | refine W.ret rfl ?_ | refine N.nil ?_ | refine N.loop ?_ | refine W.exit rfl ?_ | refine X.seq ?_ | refine X.loop ?_ | refine X.hit ?_ | refine X.pass (by decide) ?_ | refine W.region tm no_specs rfl (by conv => lhs; simp) fun _ => ?_ | refine W.regionD tm no_specs rfl (by conv => lhs; simp) (by conv => lhs; simp) (by kernel_rfl) fun _ => ?_)
  refine W.cut rfl (fun σ => AS.le ⟨110, [(1, .int .u64 (lo a b)), (2, .int .u64 (hi a b)), (6, .nils), (0, .list 3 (l.map Tk.cells))], []⟩ σ) ?_ ?_
  · by_cases h : b < a
    · have h2 : ¬ a < b := by omega
      repeat (first | refine N.seq ?_ | refine N.blk ?_ | refine W.seq rfl ?_ | refine W.block rfl ?_ | refine W.skip rfl ?_ | refine W.ret rfl ?_ | refine N.nil ?_ | refine N.loop ?_ | refine W.exit rfl ?_ | refine X.seq ?_ | refine X.loop ?_ | refine X.hit ?_ | refine X.pass (by decide) ?_ | refine W.condT rfl (by rfl) ?_ | refine W.condF rfl (by rfl) ?_ | refine W.region tm no_specs rfl (by conv => lhs; simp [h]) fun _ => ?_ | refine W.regionD tm no_specs rfl (by conv => lhs; simp [h]) (by conv => lhs; simp) (by kernel_rfl) fun _ => ?_)
      exact AS.le_of rfl (by simp [tmpsIn, lo, hi, h, h2]) (fun _ => rfl)
    · repeat (first | refine N.seq ?_ | refine N.blk ?_ | refine W.seq rfl ?_ | refine W.block rfl ?_ | refine W.skip rfl ?_ | refine W.ret rfl ?_ | refine N.nil ?_ | refine N.loop ?_ | refine W.exit rfl ?_ | refine X.seq ?_ | refine X.loop ?_ | refine X.hit ?_ | refine X.pass (by decide) ?_ | refine W.condT rfl (by rfl) ?_ | refine W.condF rfl (by rfl) ?_ | refine W.region tm no_specs rfl (by conv => lhs; simp [h]) fun _ => ?_ | refine W.regionD tm no_specs rfl (by conv => lhs; simp [h]) (by conv => lhs; simp) (by kernel_rfl) fun _ => ?_)
      refine AS.le_of rfl ?_ (fun _ => rfl)
      by_cases h2 : a < b
      · simp [tmpsIn, lo, hi, h, h2]
      · have : a = b := by omega
        subst this
        simp [tmpsIn, lo, hi]
  · intro σ hσ
    refine W.weak hσ ?_
    clear hσ
    by_cases h0 : lo a b = hi a b ∨ lo a b = 0
    · have hn : note l a b = l := by rw [note, if_pos h0]
      dsimp only
      rw [hn]
      by_cases e1 : lo a b = hi a b
      · have e1 : (lo a b == hi a b) = true := by simpa using e1
        repeat (first | refine N.seq ?_ | refine N.blk ?_ | refine W.seq rfl ?_ | refine W.block rfl ?_ | refine W.skip rfl ?_ | refine W.ret rfl ?_ | refine N.nil ?_ | refine N.loop ?_ | refine W.exit rfl ?_ | refine X.seq ?_ | refine X.loop ?_ | refine X.hit ?_ | refine X.pass (by decide) ?_ | refine W.condT rfl (by rfl) ?_ | refine W.condF rfl (by rfl) ?_ | refine W.region tm no_specs rfl (by conv => lhs; simp [e1]) fun _ => ?_ | refine W.regionD tm no_specs rfl (by conv => lhs; simp [e1]) (by conv => lhs; simp) (by kernel_rfl) fun _ => ?_)
        first | exact Ret.dataR rfl (by conv => lhs; simp) (by conv => lhs; simp) (by first | rfl | simp [inlT, inlV]) | fail "no return here"
      · have e2 : (lo a b == 0) = true := by simpa using h0.resolve_left e1
        have e1 : (lo a b == hi a b) = false := by simpa using e1
        repeat (first | refine N.seq ?_ | refine N.blk ?_ | refine W.seq rfl ?_ | refine W.block rfl ?_ | refine W.skip rfl ?_ | refine W.ret rfl ?_ | refine N.nil ?_ | refine N.loop ?_ | refine W.exit rfl ?_ | refine X.seq ?_ | refine X.loop ?_ | refine X.hit ?_ | refine X.pass (by decide) ?_ | refine W.condT rfl (by rfl) ?_ | refine W.condF rfl (by rfl) ?_ | refine W.region tm no_specs rfl (by conv => lhs; simp [e1, e2]) fun _ => ?_ | refine W.regionD tm no_specs rfl (by conv => lhs; simp [e1, e2]) (by conv => lhs; simp) (by kernel_rfl) fun _ => ?_)
        first | exact Ret.dataR rfl (by conv => lhs; simp) (by conv => lhs; simp) (by first | rfl | simp [inlT, inlV]) | fail "no return here"
    · have e1 : (lo a b == hi a b) = false := by simpa using fun h => h0 (.inl h)
      have e2 : (lo a b == 0) = false := by simpa using fun h => h0 (.inr h)
      have b0 := capTB hl
      repeat (first | refine N.seq ?_ | refine N.blk ?_ | refine W.seq rfl ?_ | refine W.block rfl ?_ | refine W.skip rfl ?_ | refine W.ret rfl ?_ | refine N.nil ?_ | refine N.loop ?_ | refine W.exit rfl ?_ | refine X.seq ?_ | refine X.loop ?_ | refine X.hit ?_ | refine X.pass (by decide) ?_ | refine W.condT rfl (by rfl) ?_ | refine W.condF rfl (by rfl) ?_ | refine W.region tm no_specs rfl (by conv => lhs; simp [e1, e2, capTL hl, b0, maxLen]) fun _ => ?_ | refine W.regionD tm no_specs rfl (by conv => lhs; simp [e1, e2, capTL hl, b0, maxLen]) (by conv => lhs; simp) (by kernel_rfl) fun _ => ?_)
      refine W.loop rfl (ι := { k : Nat // k ≤ l.length ∧ ∀ i y, i < k → l[i]? = some y → pq true ⟨lo a b, hi a b, 1⟩ y = false })
        (fun k => ⟨110, [(0, .list 3 (l.map Tk.cells)), (1, .int .u64 (lo a b)), (2, .int .u64 (hi a b)), (7, .sl 384 2 0 l.length), (8, .int .i64 k.1)], [(384, { gen := 2, kind := 2, elem := 111, size := 3, inl := true, rows := List.map Tk.cells l })]⟩)
        (fun k => l.length - k.1) ⟨0, by omega, fun i y h => by omega⟩ (AS.le_of rfl ⟨rfl, rfl, rfl, rfl, rfl, trivial⟩ (fun _ => rfl)) ?_
      rintro ⟨k, hk, hp⟩
      dsimp only
      by_cases hk2 : k = l.length
      · subst hk2
        have hnone : l.findIdx? (pq true ⟨lo a b, hi a b, 1⟩) = none := by
          rw [List.findIdx?_eq_none_iff]
          intro x hx
          obtain ⟨i, hi, rfl⟩ := List.mem_iff_getElem.1 hx
          exact hp i _ hi (List.getElem?_eq_getElem hi)
        have q : ¬ (l.length : Int) < l.length := by omega
        by_cases hl2 : 128 ≤ l.length
        · have hn : note l a b = l := by rw [note, if_neg h0, hnone]; simp only [if_pos hl2]
          rw [hn]
          have hl3 : (128 : Int) ≤ l.length := by omega
          repeat (first | refine N.seq ?_ | refine N.blk ?_ | refine W.seq rfl ?_ | refine W.block rfl ?_ | refine W.skip rfl ?_ | refine W.ret rfl ?_ | refine N.nil ?_ | refine N.loop ?_ | refine W.exit rfl ?_ | refine X.seq ?_ | refine X.loop ?_ | refine X.hit ?_ | refine X.pass (by decide) ?_ | refine W.condT rfl (by rfl) ?_ | refine W.condF rfl (by rfl) ?_ | refine W.region tm no_specs rfl (by conv => lhs; simp [q, hl3]) fun _ => ?_ | refine W.regionD tm no_specs rfl (by conv => lhs; simp [q, hl3]) (by conv => lhs; simp) (by kernel_rfl) fun _ => ?_)
          first | exact Ret.dataR rfl (by conv => lhs; simp) (by conv => lhs; simp) (by first | rfl | simp [inlT, inlV]) | fail "no return here"
        · have hl3 : ¬ (128 : Int) ≤ l.length := by omega
          have hn : note l a b = ins l (at_ l (pq false ⟨lo a b, hi a b, 1⟩)) ⟨lo a b, hi a b, 1⟩ := by rw [note, if_neg h0, hnone]; simp only [if_neg hl2]
          rw [hn]
          repeat (first | refine N.seq ?_ | refine N.blk ?_ | refine W.seq rfl ?_ | refine W.block rfl ?_ | refine W.skip rfl ?_ | refine W.ret rfl ?_ | refine N.nil ?_ | refine N.loop ?_ | refine W.exit rfl ?_ | refine X.seq ?_ | refine X.loop ?_ | refine X.hit ?_ | refine X.pass (by decide) ?_ | refine W.condT rfl (by rfl) ?_ | refine W.condF rfl (by rfl) ?_ | refine W.region tm no_specs rfl (by conv => lhs; simp [q, hl3]) fun _ => ?_ | refine W.regionD tm no_specs rfl (by conv => lhs; simp [q, hl3]) (by conv => lhs; simp) (by kernel_rfl) fun _ => ?_)
          have hcap : l.length + 1 ≤ 200 := by omega
          have hcapB := capTB hcap
          refine W.loop rfl (ι := { k : Nat // k ≤ l.length ∧ ∀ i y, i < k → l[i]? = some y → pq false ⟨lo a b, hi a b, 1⟩ y = false })
            (fun k => ⟨110, [(0, .list 3 (l.map Tk.cells)), (1, .int .u64 (lo a b)), (2, .int .u64 (hi a b)), (7, .sl 384 2 0 l.length), (9, .int .i64 k.1)], [(384, { gen := 2, kind := 2, elem := 111, size := 3, inl := true, rows := List.map Tk.cells l })]⟩)
            (fun k => l.length - k.1) ⟨0, by omega, fun i y h => by omega⟩ (AS.le_of rfl ⟨rfl, rfl, rfl, rfl, rfl, trivial⟩ (fun _ => rfl)) ?_
          rintro ⟨k, hk, hp⟩
          dsimp only
          by_cases hk2 : k = l.length
          · subst hk2
            have hat : at_ l (pq false ⟨lo a b, hi a b, 1⟩) = l.length := by
              have : l.findIdx? (pq false ⟨lo a b, hi a b, 1⟩) = none := by
                rw [List.findIdx?_eq_none_iff]
                intro x hx
                obtain ⟨i, hi, rfl⟩ := List.mem_iff_getElem.1 hx
                exact hp i _ hi (List.getElem?_eq_getElem hi)
              simp [at_, this]
            rw [hat]
            have ht : List.take l.length (l.map Tk.cells) = l.map Tk.cells := List.take_of_length_le (by simp)
            have ht0 : List.drop l.length (l.map Tk.cells) = [] := List.drop_of_length_le (by simp)
            have ht2 : List.take (l.length + 1) (l.map Tk.cells ++ [[AV.int .u64 (lo a b), AV.int .u64 (hi a b), AV.int .i64 1]]) = l.map Tk.cells ++ [[AV.int .u64 (lo a b), AV.int .u64 (hi a b), AV.int .i64 1]] := List.take_of_length_le (by simp)
            repeat (first | refine N.seq ?_ | refine N.blk ?_ | refine W.seq rfl ?_ | refine W.block rfl ?_ | refine W.skip rfl ?_ | refine W.ret rfl ?_ | refine N.nil ?_ | refine N.loop ?_ | refine W.exit rfl ?_ | refine X.seq ?_ | refine X.loop ?_ | refine X.hit ?_ | refine X.pass (by decide) ?_ | refine W.condT rfl (by rfl) ?_ | refine W.condF rfl (by rfl) ?_ | refine W.region tm no_specs rfl (by conv => lhs; simp [q, hl3, maxLen, ht, ht0, capTL hcap, hcapB]) fun _ => ?_ | refine W.regionD tm no_specs rfl (by conv => lhs; simp [q, hl3, maxLen, ht, ht0, capTL hcap, hcapB]) (by conv => lhs; simp) (by kernel_rfl) fun _ => ?_)
            simp only [ins, List.map_append, List.map_take, List.map_drop, ht, ht0, List.map_cons, Tk.cells]
            first | exact Ret.dataR rfl (by conv => lhs; simp [ht2]) (by conv => lhs; simp [ht2]) (by first | rfl | simp [inlT, inlV]) | fail "no return here"
          · have hlt : k < l.length := by omega
            have q : (k : Int) < l.length := by omega
            have hw := w64_succ hlt (Nat.le_trans hl (by decide))
            rcases Bool.eq_false_or_eq_true (pq false ⟨lo a b, hi a b, 1⟩ l[k]) with hq | hq
            · have hat : at_ l (pq false ⟨lo a b, hi a b, 1⟩) = k := by
                have : l.findIdx? (pq false ⟨lo a b, hi a b, 1⟩) = some k := by
                  rw [List.findIdx?_eq_some_iff_getElem]
                  exact ⟨hlt, hq, fun j hj => by simp [hp j _ hj (List.getElem?_eq_getElem (by omega))]⟩
                simp [at_, this]
              rw [hat]
              have n1 : k + 1 + (l.length - k) ≤ 200 := by omega
              have n3 : k + 1 ≤ 200 := by omega
              have n4 : k ≤ 200 := by omega
              have n2 : k + 1 + (l.length - k) = l.length + 1 := by omega
              have hAA : List.take k (List.take k (l.map Tk.cells)) = List.take k (l.map Tk.cells) := by rw [List.take_take, Nat.min_self]
              have hBB : List.take (k + 1) (List.take k (l.map Tk.cells) ++ [[AV.int .u64 (lo a b), AV.int .u64 (hi a b), AV.int .i64 1]]) = List.take k (l.map Tk.cells) ++ [[AV.int .u64 (lo a b), AV.int .u64 (hi a b), AV.int .i64 1]] := List.take_of_length_le (by simp; omega)
              have ht : List.take l.length (l.map Tk.cells) = l.map Tk.cells := List.take_of_length_le (by simp)
              have hR : (ins l k ⟨lo a b, hi a b, 1⟩).map Tk.cells = List.take k (l.map Tk.cells) ++ [AV.int .u64 (lo a b), AV.int .u64 (hi a b), AV.int .i64 1] :: List.drop k (l.map Tk.cells) := by
                simp [ins, Tk.cells]
              have hR2 : (List.take k (l.map Tk.cells) ++ [AV.int .u64 (lo a b), AV.int .u64 (hi a b), AV.int .i64 1] :: List.drop k (l.map Tk.cells)).length = k + 1 + (l.length - k) := by
                simp; omega
              rw [hR]
              rw [pq_false] at hq
              by_cases q1 : l[k].a < lo a b
              · simp [q1] at hq
              · by_cases q2 : (l[k].a == lo a b) = true
                · rw [q2] at hq
                  have q3 : ¬ l[k].b ≤ hi a b := by simpa [q1] using hq
                  repeat (first | refine N.seq ?_ | refine N.blk ?_ | refine W.seq rfl ?_ | refine W.block rfl ?_ | refine W.skip rfl ?_ | refine W.ret rfl ?_ | refine N.nil ?_ | refine N.loop ?_ | refine W.exit rfl ?_ | refine X.seq ?_ | refine X.loop ?_ | refine X.hit ?_ | refine X.pass (by decide) ?_ | refine W.condT rfl (by rfl) ?_ | refine W.condF rfl (by rfl) ?_ | refine W.region tm no_specs rfl (by conv => lhs; simp [q, hl3, maxLen, hlt, Tk.cells, q1, q2, q3, hk, capTL n1, capTB n1, capTB n3, capTM n4, ht, hAA, hBB]) fun _ => ?_ | refine W.regionD tm no_specs rfl (by conv => lhs; simp [q, hl3, maxLen, hlt, Tk.cells, q1, q2, q3, hk, capTL n1, capTB n1, capTB n3, capTM n4, ht, hAA, hBB]) (by conv => lhs; simp) (by kernel_rfl) fun _ => ?_)
                  generalize hm : List.take k (l.map Tk.cells) ++ _ :: _ = m at hR2 ⊢
                  have hm2 : m.take (k + 1 + (l.length - k)) = m := List.take_of_length_le (by omega)
                  have hm3 : k + 1 + (l.length - k) ≤ m.length := by omega
                  first | exact Ret.dataR rfl (by conv => lhs; simp [hm2, hm3]) (by conv => lhs; simp [hm2, hm3]) (by first | rfl | simp [inlT, inlV]) | fail "no return here"
                · have q2 : (l[k].a == lo a b) = false := by simpa using q2
                  repeat (first | refine N.seq ?_ | refine N.blk ?_ | refine W.seq rfl ?_ | refine W.block rfl ?_ | refine W.skip rfl ?_ | refine W.ret rfl ?_ | refine N.nil ?_ | refine N.loop ?_ | refine W.exit rfl ?_ | refine X.seq ?_ | refine X.loop ?_ | refine X.hit ?_ | refine X.pass (by decide) ?_ | refine W.condT rfl (by rfl) ?_ | refine W.condF rfl (by rfl) ?_ | refine W.region tm no_specs rfl (by conv => lhs; simp [q, hl3, maxLen, hlt, Tk.cells, q1, q2, hk, capTL n1, capTB n1, capTB n3, capTM n4, ht, hAA, hBB]) fun _ => ?_ | refine W.regionD tm no_specs rfl (by conv => lhs; simp [q, hl3, maxLen, hlt, Tk.cells, q1, q2, hk, capTL n1, capTB n1, capTB n3, capTM n4, ht, hAA, hBB]) (by conv => lhs; simp) (by kernel_rfl) fun _ => ?_)
                  generalize hm : List.take k (l.map Tk.cells) ++ _ :: _ = m at hR2 ⊢
                  have hm2 : m.take (k + 1 + (l.length - k)) = m := List.take_of_length_le (by omega)
                  have hm3 : k + 1 + (l.length - k) ≤ m.length := by omega
                  first | exact Ret.dataR rfl (by conv => lhs; simp [hm2, hm3]) (by conv => lhs; simp [hm2, hm3]) (by first | rfl | simp [inlT, inlV]) | fail "no return here"
            · have hr : ∀ i y, i < k + 1 → l[i]? = some y → pq false ⟨lo a b, hi a b, 1⟩ y = false := fun i y hi hy => by
                by_cases e : i = k
                · subst e; rw [List.getElem?_eq_getElem hlt] at hy; cases hy; exact hq
                · exact hp i y (by omega) hy
              rw [pq_false] at hq
              by_cases q1 : l[k].a < lo a b
              · repeat (first | refine N.seq ?_ | refine N.blk ?_ | refine W.seq rfl ?_ | refine W.block rfl ?_ | refine W.skip rfl ?_ | refine W.ret rfl ?_ | refine N.nil ?_ | refine N.loop ?_ | refine W.exit rfl ?_ | refine X.seq ?_ | refine X.loop ?_ | refine X.hit ?_ | refine X.pass (by decide) ?_ | refine W.condT rfl (by rfl) ?_ | refine W.condF rfl (by rfl) ?_ | refine W.region tm no_specs rfl (by conv => lhs; simp [q, hlt, Tk.cells, q1, hw]) fun _ => ?_ | refine W.regionD tm no_specs rfl (by conv => lhs; simp [q, hlt, Tk.cells, q1, hw]) (by conv => lhs; simp) (by kernel_rfl) fun _ => ?_)
                exact ⟨⟨k + 1, by omega, hr⟩, by dsimp only; omega, AS.le_of rfl ⟨rfl, rfl, rfl, rfl, rfl, trivial⟩ (fun _ => rfl)⟩
              · have q2 : (l[k].a == lo a b) = true ∧ l[k].b ≤ hi a b := by simpa [q1] using hq
                repeat (first | refine N.seq ?_ | refine N.blk ?_ | refine W.seq rfl ?_ | refine W.block rfl ?_ | refine W.skip rfl ?_ | refine W.ret rfl ?_ | refine N.nil ?_ | refine N.loop ?_ | refine W.exit rfl ?_ | refine X.seq ?_ | refine X.loop ?_ | refine X.hit ?_ | refine X.pass (by decide) ?_ | refine W.condT rfl (by rfl) ?_ | refine W.condF rfl (by rfl) ?_ | refine W.region tm no_specs rfl (by conv => lhs; simp [q, hlt, Tk.cells, q1, q2, hw]) fun _ => ?_ | refine W.regionD tm no_specs rfl (by conv => lhs; simp [q, hlt, Tk.cells, q1, q2, hw]) (by conv => lhs; simp) (by kernel_rfl) fun _ => ?_)
                exact ⟨⟨k + 1, by omega, hr⟩, by dsimp only; omega, AS.le_of rfl ⟨rfl, rfl, rfl, rfl, rfl, trivial⟩ (fun _ => rfl)⟩
      · have hlt : k < l.length := by omega
        have q : (k : Int) < l.length := by omega
        have hw := w64_succ hlt (Nat.le_trans hl (by decide))
        rcases Bool.eq_false_or_eq_true (pq true ⟨lo a b, hi a b, 1⟩ l[k]) with hq | hq
        · have hsome : l.findIdx? (pq true ⟨lo a b, hi a b, 1⟩) = some k := by
            rw [List.findIdx?_eq_some_iff_getElem]
            exact ⟨hlt, hq, fun j hj => by simp [hp j _ hj (List.getElem?_eq_getElem (by omega))]⟩
          have hn : note l a b = l.modify k upT := by rw [note, if_neg h0, hsome]
          rw [hn]
          rw [pq_true] at hq
          simp only [Bool.and_eq_true] at hq
          obtain ⟨q1, q2⟩ := hq
          repeat (first | refine N.seq ?_ | refine N.blk ?_ | refine W.seq rfl ?_ | refine W.block rfl ?_ | refine W.skip rfl ?_ | refine W.ret rfl ?_ | refine N.nil ?_ | refine N.loop ?_ | refine W.exit rfl ?_ | refine X.seq ?_ | refine X.loop ?_ | refine X.hit ?_ | refine X.pass (by decide) ?_ | refine W.condT rfl (by rfl) ?_ | refine W.condF rfl (by rfl) ?_ | refine W.region tm no_specs rfl (by conv => lhs; simp [q, hlt, Tk.cells, q1, q2, mmA]) fun _ => ?_ | refine W.regionD tm no_specs rfl (by conv => lhs; simp [q, hlt, Tk.cells, q1, q2, mmA]) (by conv => lhs; simp) (by kernel_rfl) fun _ => ?_)
          simp only [← mod_map l hlt, upT, Tk.cells]
          generalize hm : (List.map Tk.cells l).set k _ = m
          have hm2 : m.take l.length = m := List.take_of_length_le (by rw [← hm]; simp)
          have hm3 : l.length ≤ m.length := by rw [← hm]; simp
          first | exact Ret.dataR rfl (by conv => lhs; simp [hm2, hm3]) (by conv => lhs; simp [hm2, hm3]) (by first | rfl | simp [inlT, inlV]) | fail "no return here"
        · have hr : ∀ i y, i < k + 1 → l[i]? = some y → pq true ⟨lo a b, hi a b, 1⟩ y = false := fun i y hi hy => by
            by_cases e : i = k
            · subst e; rw [List.getElem?_eq_getElem hlt] at hy; cases hy; exact hq
            · exact hp i y (by omega) hy
          rw [pq_true] at hq
          by_cases q1 : (l[k].a == lo a b) = true
          · rw [q1, Bool.true_and] at hq
            repeat (first | refine N.seq ?_ | refine N.blk ?_ | refine W.seq rfl ?_ | refine W.block rfl ?_ | refine W.skip rfl ?_ | refine W.ret rfl ?_ | refine N.nil ?_ | refine N.loop ?_ | refine W.exit rfl ?_ | refine X.seq ?_ | refine X.loop ?_ | refine X.hit ?_ | refine X.pass (by decide) ?_ | refine W.condT rfl (by rfl) ?_ | refine W.condF rfl (by rfl) ?_ | refine W.region tm no_specs rfl (by conv => lhs; simp [q, hlt, Tk.cells, q1, hq, hw]) fun _ => ?_ | refine W.regionD tm no_specs rfl (by conv => lhs; simp [q, hlt, Tk.cells, q1, hq, hw]) (by conv => lhs; simp) (by kernel_rfl) fun _ => ?_)
            exact ⟨⟨k + 1, by omega, hr⟩, by dsimp only; omega, AS.le_of rfl ⟨rfl, rfl, rfl, rfl, rfl, trivial⟩ (fun _ => rfl)⟩
          · have q1 : (l[k].a == lo a b) = false := by simpa using q1
            repeat (first | refine N.seq ?_ | refine N.blk ?_ | refine W.seq rfl ?_ | refine W.block rfl ?_ | refine W.skip rfl ?_ | refine W.ret rfl ?_ | refine N.nil ?_ | refine N.loop ?_ | refine W.exit rfl ?_ | refine X.seq ?_ | refine X.loop ?_ | refine X.hit ?_ | refine X.pass (by decide) ?_ | refine W.condT rfl (by rfl) ?_ | refine W.condF rfl (by rfl) ?_ | refine W.region tm no_specs rfl (by conv => lhs; simp [q, hlt, Tk.cells, q1, hw]) fun _ => ?_ | refine W.regionD tm no_specs rfl (by conv => lhs; simp [q, hlt, Tk.cells, q1, hw]) (by conv => lhs; simp) (by kernel_rfl) fun _ => ?_)
            exact ⟨⟨k + 1, by omega, hr⟩, by dsimp only; omega, AS.le_of rfl ⟨rfl, rfl, rfl, rfl, rfl, trivial⟩ (fun _ => rfl)⟩

end Go.Abs.Po
namespace Go.Abs.Po
open Go Go.Proofs Go.Abs
set_option maxRecDepth 100000
set_option maxHeartbeats 4000000
set_option linter.unusedSimpArgs false
set_option linter.unusedVariables false
attribute [local simp] runL stepA execA_eq skipA run_ret run_fail run_get run_put run_asm num lk st lk_st putA AS.ev ofValue ofFlat mkv splice fieldAddrA buildA fillA runF gdst pickA unOpA extractA resVs resV pack frzT inlT inlV frzV frzVs frzL frz1 newId AV.cellsOf AV.flat AV.flat2 specOf loadA_runR capA copyA copyTo srcA sliceCA slice3A appendZA extA AV.place lenCA clearA clearTo expG expB3 List.zipWith renL fF handB renB AV.ren backF backL idsOf freshIds refsL refsB AV.refs List.range List.range.loop placesA sliceRows rowsOf convertA sliceArrA sliceA bndA nilCheckA arrayAtA mmA lookupA keyOf keyOK findA keyEqA foundA makeMapA mapUpdateA appendA rowsA indexA partA fieldA retE2 frqT frqV frqVs frqL frq1 reachE blkRefs outE nodupE firstE seqO expB2 expF instA take_len_map
def pre {α : Type} (p : α → Bool) (l : List α) : Nat := (l.takeWhile p).length
theorem pre_le {α : Type} (p : α → Bool) (l : List α) : pre p l ≤ l.length := (List.takeWhile_sublist _).length_le
theorem pre_lt {α : Type} {p : α → Bool} {l : List α} {k : Nat} {x : α} (hk : k < pre p l) (hx : l[k]? = some x) : p x = true := by
  induction l generalizing k with
  | nil => simp at hx
  | cons a r ih =>
    cases h : p a with
    | true =>
      have e : pre p (a :: r) = pre p r + 1 := by simp [pre, List.takeWhile_cons, h]
      cases k with
      | zero =>
        simp only [List.getElem?_cons_zero, Option.some.injEq] at hx
        subst hx
        exact h
      | succ k =>
        rw [List.getElem?_cons_succ] at hx
        exact ih (by omega) hx
    | false =>
      have e : pre p (a :: r) = 0 := by simp [pre, List.takeWhile_cons, h]
      omega
theorem pre_ge {α : Type} {p : α → Bool} {l : List α} {x : α} (hx : l[pre p l]? = some x) : p x = false := by
  induction l with
  | nil => simp at hx
  | cons a r ih =>
    cases h : p a with
    | true =>
      have e : pre p (a :: r) = pre p r + 1 := by simp [pre, List.takeWhile_cons, h]
      rw [e, List.getElem?_cons_succ] at hx
      exact ih hx
    | false =>
      have e : pre p (a :: r) = 0 := by simp [pre, List.takeWhile_cons, h]
      rw [e] at hx
      simp only [List.getElem?_cons_zero, Option.some.injEq] at hx
      subst hx
      exact h
def uc (n : Int) : List AV := [.int .u64 n]
theorem uc_inj (x y : Int) (h : uc x = uc y) : x = y := by simpa [uc] using h
theorem dropG {α : Type} {l : List α} {k : Nat} {x : α} (h : l[k]? = some x) : l.drop k = x :: l.drop (k + 1) := by
  obtain ⟨hk, rfl⟩ := List.getElem?_eq_some_iff.1 h
  exact List.drop_eq_getElem_cons hk
/-! ### Whether a process is there -/
def has : List Int → Int → Bool
  | [], _ => false
  | x :: r, y => if x = y then true else has r y
def UL := { l : List Int // l.length ≤ 400 }
def encLU (x : UL × Int) : List AV := [.list 1 (x.1.1.map uc), .int .u64 x.2]
theorem encLU_inj {β : Type} {f : UL × Int → β} : ∀ x y, encLU x = encLU y → f x = f y := fun x y h => by
  simp only [encLU, List.cons.injEq, AV.list.injEq, AV.int.injEq, true_and, and_true] at h
  rw [Prod.ext (Subtype.ext (map_inj uc_inj h.1)) h.2]
noncomputable def hasS : SpecFn := mkS encLU fun x => (.bool (has x.1.1 x.2), [])
theorem hasS_eq (l : List Int) (y : Int) (h : l.length ≤ 400) : hasS [.list 1 (l.map uc), .int .u64 y] [] = some (.bool (has l y), []) := mkS_eq (enc := encLU) encLU_inj (⟨l, h⟩, y)
theorem cap4 {n : Nat} (h : n ≤ 400) : n ≤ maxLen := by simp only [maxLen]; omega
theorem has_ok : FnC Try.prog 70 hasS := by
  refine FnC.walk 70 (fn := Try.f70) Try.func70 rfl (by kernel_rfl) fun x => ?_
  obtain ⟨⟨l, hl⟩, y⟩ := x
  change W _ _ _ _ ⟨18, [(0, .list 1 (l.map uc)), (1, .int .u64 y)], []⟩
  dsimp only
  repeat (first | refine N.seq ?_ | refine N.blk ?_ | refine W.seq rfl ?_ | refine W.block rfl ?_ | refine W.skip rfl ?_ | refine W.ret rfl ?_ | refine N.nil ?_ | refine N.loop ?_ | refine W.exit rfl ?_ | refine X.seq ?_ | refine X.loop ?_ | refine X.hit ?_ | refine X.pass (by decide) ?_ | refine W.condT rfl (by rfl) ?_ | refine W.condF rfl (by rfl) ?_ | refine W.region tm no_specs rfl (by conv => lhs; simp) fun _ => ?_ | refine W.regionD tm no_specs rfl (by conv => lhs; simp) (by conv => lhs; simp) (by kernel_rfl) fun _ => ?_)
  refine W.loop rfl (ι := { k : Nat // k ≤ l.length ∧ has l y = has (l.drop k) y })
    (fun k => ⟨18, [(0, .list 1 (l.map uc)), (1, .int .u64 y), (5, .int .i64 (k.1 : Nat))], []⟩) (fun k => l.length - k.1)
    ⟨0, by simp, rfl⟩ (AS.le_of rfl ⟨rfl, rfl, rfl, trivial⟩ (fun _ => rfl)) ?_
  rintro ⟨k, hk, hi⟩
  dsimp only at hk hi ⊢
  rw [hi]
  by_cases hk2 : k = l.length
  · subst hk2
    repeat (first | refine N.seq ?_ | refine N.blk ?_ | refine W.seq rfl ?_ | refine W.block rfl ?_ | refine W.skip rfl ?_ | refine W.ret rfl ?_ | refine N.nil ?_ | refine N.loop ?_ | refine W.exit rfl ?_ | refine X.seq ?_ | refine X.loop ?_ | refine X.hit ?_ | refine X.pass (by decide) ?_ | refine W.condT rfl (by rfl) ?_ | refine W.condF rfl (by rfl) ?_ | refine W.region tm no_specs rfl (by conv => lhs; simp) fun _ => ?_ | refine W.regionD tm no_specs rfl (by conv => lhs; simp) (by conv => lhs; simp) (by kernel_rfl) fun _ => ?_)
    rw [List.drop_length]
    simp only [has]
    first | exact Ret.dataR rfl (by conv => lhs; simp) (by conv => lhs; simp) (by first | rfl | simp [inlT, inlV]) | fail "no return here"
  · have hlt : k < l.length := by omega
    obtain ⟨x, hx⟩ := get_lt hlt
    have q1 : (k : Int) < l.length := by omega
    have q2 : ¬ l.length ≤ k := by omega
    have hw := w64_succ hlt (cap4 hl)
    rw [dropG hx]
    by_cases e : x = y
    · have hb : (x == y) = true := by simpa using e
      repeat (first | refine N.seq ?_ | refine N.blk ?_ | refine W.seq rfl ?_ | refine W.block rfl ?_ | refine W.skip rfl ?_ | refine W.ret rfl ?_ | refine N.nil ?_ | refine N.loop ?_ | refine W.exit rfl ?_ | refine X.seq ?_ | refine X.loop ?_ | refine X.hit ?_ | refine X.pass (by decide) ?_ | refine W.condT rfl (by rfl) ?_ | refine W.condF rfl (by rfl) ?_ | refine W.region tm no_specs rfl (by conv => lhs; simp [q1, q2, hx, hb, hw, uc]) fun _ => ?_ | refine W.regionD tm no_specs rfl (by conv => lhs; simp [q1, q2, hx, hb, hw, uc]) (by conv => lhs; simp) (by kernel_rfl) fun _ => ?_)
      simp only [has, if_pos e]
      first | exact Ret.dataR rfl (by conv => lhs; simp) (by conv => lhs; simp) (by first | rfl | simp [inlT, inlV]) | fail "no return here"
    · have hb : (x == y) = false := by simpa using e
      repeat (first | refine N.seq ?_ | refine N.blk ?_ | refine W.seq rfl ?_ | refine W.block rfl ?_ | refine W.skip rfl ?_ | refine W.ret rfl ?_ | refine N.nil ?_ | refine N.loop ?_ | refine W.exit rfl ?_ | refine X.seq ?_ | refine X.loop ?_ | refine X.hit ?_ | refine X.pass (by decide) ?_ | refine W.condT rfl (by rfl) ?_ | refine W.condF rfl (by rfl) ?_ | refine W.region tm no_specs rfl (by conv => lhs; simp [q1, q2, hx, hb, hw, uc]) fun _ => ?_ | refine W.regionD tm no_specs rfl (by conv => lhs; simp [q1, q2, hx, hb, hw, uc]) (by conv => lhs; simp) (by kernel_rfl) fun _ => ?_)
      exact ⟨⟨k + 1, hlt, by simp only [has, if_neg e]⟩, by dsimp only; omega, AS.le_of rfl ⟨rfl, rfl, rfl, trivial⟩ (fun _ => rfl)⟩
/-! ### One more -/
def add1 (l : List Int) (y : Int) : List Int := if y = 0 ∨ has l y = true then l else l ++ [y]
theorem add1_len (l : List Int) (y : Int) : (add1 l y).length ≤ l.length + 1 := by unfold add1; split <;> simp
def uB (g : Nat) (l : List Int) : ABlk := { gen := g, kind := 2, elem := 55, size := 1, inl := true, rows := l.map uc }
theorem uB_inj {g : Nat} {l m : List Int} (h : uB g l = uB g m) : l = m := by
  simp only [uB, ABlk.mk.injEq, true_and] at h
  exact map_inj uc_inj h
noncomputable def ad_specs : NL Spec := [(70, ⟨0, hasS⟩)]
theorem ad_specs_ok : ∀ p ∈ ad_specs, FnC Try.prog p.1 p.2.fn := by
  simp only [ad_specs, List.mem_cons, List.not_mem_nil, or_false]
  rintro p rfl
  exact has_ok
attribute [local simp] ad_specs
def encAd (x : UL × Int) : List AV × List ABlk := ([.sl 0 0 0 x.1.1.length, .int .u64 x.2], [uB 0 x.1.1])
theorem encAd_inj {β : Type} {f : UL × Int → β} : ∀ x y, encAd x = encAd y → f x = f y := fun x y h => by
  simp only [encAd, Prod.mk.injEq, List.cons.injEq, AV.int.injEq, true_and, and_true] at h
  rw [Prod.ext (Subtype.ext (uB_inj h.2)) h.1.2]
noncomputable def addS : SpecFn := mkS2 encAd fun x => if x.2 = 0 ∨ has x.1.1 x.2 = true then (.sl 0 0 0 x.1.1.length, [uB 0 x.1.1]) else (.sl 0 1 0 (x.1.1.length + 1), [uB 1 (x.1.1 ++ [x.2])])
theorem addS_eq (l : List Int) (y : Int) (h : l.length ≤ 400) : addS [.sl 0 0 0 l.length, .int .u64 y] [{ gen := 0, kind := 2, elem := 55, size := 1, inl := true, rows := l.map uc }] =
    some (if y = 0 ∨ has l y = true then (.sl 0 0 0 l.length, [uB 0 l]) else (.sl 0 1 0 (l.length + 1), [uB 1 (l ++ [y])])) := mkS2_eq (enc := encAd) encAd_inj (⟨l, h⟩, y)
theorem cap4L {n : Nat} (h : n ≤ 400) : n ≤ 9223372036854775806 := by omega
theorem cap4B {n : Nat} (h : n ≤ 400) : (n + 1) * 8 ≤ 140737488355328 := by omega
theorem add_ok : FnC Try.prog 49 addS := by
  refine FnC.walkMV 49 (fn := Try.f49) Try.func49 rfl (by kernel_rfl) (fun x b hb => by simp [encAd] at hb; rw [hb]; rfl) fun x => ?_
  obtain ⟨⟨l, hl⟩, y⟩ := x
  change V _ (RetM _ _ 1 _ _) _ _ ⟨17, [(0, .sl 0 0 0 l.length), (1, .int .u64 y)], [(0, uB 0 l)]⟩
  dsimp only
  have hH := hasS_eq l y hl
  by_cases h0 : y = 0
  · have hb : (y == 0) = true := by simpa using h0
    rw [if_pos (.inl h0)]
    repeat (first | refine NV.seq ?_ | refine NV.blk ?_ | refine V.seq rfl ?_ | refine V.block rfl ?_ | refine V.skip rfl ?_ | refine V.ret rfl ?_ | refine NV.nil ?_ | refine NV.loop ?_ | refine V.exit rfl ?_ | refine XV.seq ?_ | refine XV.loop ?_ | refine XV.hit ?_ | refine XV.pass (by decide) ?_ | refine V.condT rfl (by rfl) ?_ | refine V.condF rfl (by rfl) ?_ | refine V.region tm ad_specs_ok rfl (by conv => lhs; simp [uB, hb]) fun _ => ?_ | refine V.regionD tm ad_specs_ok rfl (by conv => lhs; simp [uB, hb]) (by conv => lhs; simp) (by kernel_rfl) fun _ => ?_)
    simp only [uB]
    refine retM2_ok false [0] [0] ?_
    simp [retM2, movedOK, oldOK, frqT, frqV, frqVs, frqL, frq1, expG, expB3, renB, AV.ren, renL, List.range, List.range.loop, resVs, resV, pack, List.zipWith, List.idxOf?, List.findIdx?, List.findIdx?.go]
  · have hb : (y == 0) = false := by simpa using h0
    cases hh : has l y with
    | true =>
      rw [if_pos (.inr rfl)]
      rw [hh] at hH
      repeat (first | refine NV.seq ?_ | refine NV.blk ?_ | refine V.seq rfl ?_ | refine V.block rfl ?_ | refine V.skip rfl ?_ | refine V.ret rfl ?_ | refine NV.nil ?_ | refine NV.loop ?_ | refine V.exit rfl ?_ | refine XV.seq ?_ | refine XV.loop ?_ | refine XV.hit ?_ | refine XV.pass (by decide) ?_ | refine V.condT rfl (by rfl) ?_ | refine V.condF rfl (by rfl) ?_ | refine V.region tm ad_specs_ok rfl (by conv => lhs; simp [uB, hb, hH]) fun _ => ?_ | refine V.regionD tm ad_specs_ok rfl (by conv => lhs; simp [uB, hb, hH]) (by conv => lhs; simp) (by kernel_rfl) fun _ => ?_)
      simp only [uB]
      refine retM2_ok false [0] [0] ?_
      simp [retM2, movedOK, oldOK, frqT, frqV, frqVs, frqL, frq1, expG, expB3, renB, AV.ren, renL, List.range, List.range.loop, resVs, resV, pack, List.zipWith, List.idxOf?, List.findIdx?, List.findIdx?.go]
    | false =>
      rw [if_neg (by simp [h0])]
      rw [hh] at hH
      repeat (first | refine NV.seq ?_ | refine NV.blk ?_ | refine V.seq rfl ?_ | refine V.block rfl ?_ | refine V.skip rfl ?_ | refine V.ret rfl ?_ | refine NV.nil ?_ | refine NV.loop ?_ | refine V.exit rfl ?_ | refine XV.seq ?_ | refine XV.loop ?_ | refine XV.hit ?_ | refine XV.pass (by decide) ?_ | refine V.condT rfl (by rfl) ?_ | refine V.condF rfl (by rfl) ?_ | refine V.region tm ad_specs_ok rfl (by conv => lhs; simp [uB, hb, hH, cap4L hl, cap4B hl, maxLen]) fun _ => ?_ | refine V.regionD tm ad_specs_ok rfl (by conv => lhs; simp [uB, hb, hH, cap4L hl, cap4B hl, maxLen]) (by conv => lhs; simp) (by kernel_rfl) fun _ => ?_)
      simp only [uB]
      refine retM2_ok false [0] [1] ?_
      simp [retM2, movedOK, oldOK, frqT, frqV, frqVs, frqL, frq1, expG, expB3, renB, AV.ren, renL, List.range, List.range.loop, resVs, resV, pack, List.zipWith, List.idxOf?, List.findIdx?, List.findIdx?.go, uc]
end Go.Abs.Po
namespace Go.Abs.Po
open Go Go.Proofs Go.Abs
set_option maxRecDepth 100000
set_option maxHeartbeats 4000000
set_option linter.unusedSimpArgs false
set_option linter.unusedVariables false
attribute [local simp] runL stepA execA_eq skipA run_ret run_fail run_get run_put run_asm num lk st lk_st putA AS.ev ofValue ofFlat mkv splice fieldAddrA buildA fillA runF gdst pickA unOpA extractA resVs resV pack frzT inlT inlV frzV frzVs frzL frz1 newId AV.cellsOf AV.flat AV.flat2 specOf loadA_runR capA copyA copyTo srcA sliceCA slice3A appendZA extA AV.place lenCA clearA clearTo expG expB3 List.zipWith renL fF handB renB AV.ren backF backL idsOf freshIds refsL refsB AV.refs List.range List.range.loop placesA sliceRows rowsOf convertA sliceArrA sliceA bndA nilCheckA arrayAtA mmA lookupA keyOf keyOK findA keyEqA foundA makeMapA mapUpdateA appendA rowsA indexA partA fieldA retE2 frqT frqV frqVs frqL frq1 reachE blkRefs outE nodupE firstE seqO expB2 expF instA take_len_map
def lt1 (x y : Int) : Bool := decide (y < x)
def insU (out : List Int) (x : Int) : List Int := out.take (pre (lt1 x) out) ++ x :: out.drop (pre (lt1 x) out)
theorem insU_len (out : List Int) (x : Int) : (insU out x).length = out.length + 1 := by
  have := pre_le (lt1 x) out
  simp [insU]; omega
def ordd (l : List Int) : List Int := l.foldl insU []
theorem ord_step {l : List Int} {k : Nat} {x : Int} (h : l[k]? = some x) : (l.take (k + 1)).foldl insU [] = insU ((l.take k).foldl insU []) x := by
  rw [List.take_add_one, h]
  simp
theorem ord_len (l : List Int) : (ordd l).length = l.length := by
  have : ∀ (l acc : List Int), (l.foldl insU acc).length = acc.length + l.length := by
    intro l
    induction l with
    | nil => simp
    | cons x r ih => intro acc; rw [List.foldl_cons, ih, insU_len, List.length_cons]; omega
  rw [ordd, this]; simp
def encUL (x : UL) : List AV := [.list 1 (x.1.map uc)]
theorem encUL_inj {β : Type} {f : UL → β} : ∀ x y, encUL x = encUL y → f x = f y := fun x y h => by
  simp only [encUL, List.cons.injEq, AV.list.injEq, true_and, and_true] at h
  rw [Subtype.ext (map_inj uc_inj h)]
noncomputable def ordS : SpecFn := mkS encUL fun x => (.list 1 ((ordd x.1).map uc), [])
theorem ordS_eq (l : List Int) (h : l.length ≤ 400) : ordS [.list 1 (l.map uc)] [] = some (.list 1 ((ordd l).map uc), []) := mkS_eq (enc := encUL) encUL_inj ⟨l, h⟩
theorem ord_ok : FnC Try.prog 50 ordS := by
  refine FnC.walk 50 (fn := Try.f50) Try.func50 rfl (by kernel_rfl) fun x => ?_
  obtain ⟨l, hl⟩ := x
  change W _ _ _ _ ⟨45, [(0, .list 1 (l.map uc))], []⟩
  dsimp only
  repeat (first | refine N.seq ?_ | refine N.blk ?_ | refine W.seq rfl ?_ | refine W.block rfl ?_ | refine W.skip rfl ?_ | refine W.ret rfl ?_ | refine N.nil ?_ | refine N.loop ?_ | refine W.exit rfl ?_ | refine X.seq ?_ | refine X.loop ?_ | refine X.hit ?_ | refine X.pass (by decide) ?_ | refine W.condT rfl (by rfl) ?_ | refine W.condF rfl (by rfl) ?_ | refine W.region tm no_specs rfl (by conv => lhs; simp) fun _ => ?_ | refine W.regionD tm no_specs rfl (by conv => lhs; simp) (by conv => lhs; simp) (by kernel_rfl) fun _ => ?_)
  refine W.phantom (t := 3) 480 55 1 true rfl (by rfl) (by decide) ?_
  refine W.loop rfl (ι := { q : Nat × Nat × NL ABlk // q.1 ≤ l.length ∧ lk q.2.2 480 = some (uB q.2.1 ((l.take q.1).foldl insU [])) })
    (fun q => ⟨45, [(0, .list 1 (l.map uc)), (3, .sl 480 q.1.2.1 0 q.1.1), (4, .int .i64 (q.1.1 : Nat))], q.1.2.2⟩) (fun q => l.length - q.1.1)
    ⟨(0, 0, _), by simp, by rfl⟩ (AS.le_of rfl ⟨rfl, rfl, rfl, trivial⟩ (fun _ => rfl)) ?_
  rintro ⟨⟨k, g, h⟩, hk, h1⟩
  dsimp only at hk h1 ⊢
  have hol : ((l.take k).foldl insU []).length = k := by
    have := ord_len (l.take k)
    rw [ordd] at this
    rw [this]; simp; omega
  by_cases hk2 : k = l.length
  · subst hk2
    rw [List.take_length] at h1 hol
    repeat (first | refine N.seq ?_ | refine N.blk ?_ | refine W.seq rfl ?_ | refine W.block rfl ?_ | refine W.skip rfl ?_ | refine W.ret rfl ?_ | refine N.nil ?_ | refine N.loop ?_ | refine W.exit rfl ?_ | refine X.seq ?_ | refine X.loop ?_ | refine X.hit ?_ | refine X.pass (by decide) ?_ | refine W.condT rfl (by rfl) ?_ | refine W.condF rfl (by rfl) ?_ | refine W.region tm no_specs rfl (by conv => lhs; simp) fun _ => ?_ | refine W.regionD tm no_specs rfl (by conv => lhs; simp) (by conv => lhs; simp) (by kernel_rfl) fun _ => ?_)
    have ht : List.take l.length ((l.foldl insU []).map uc) = (l.foldl insU []).map uc := List.take_of_length_le (by simp [hol])
    have hle : l.length ≤ (l.foldl insU []).length := by omega
    simp only [ordd]
    first | exact Ret.dataR rfl (by conv => lhs; simp [h1, uB, ht, hle]) (by conv => lhs; simp [h1, uB, ht, hle]) (by first | rfl | simp [inlT, inlV]) | fail "no return here"
  · have hlt : k < l.length := by omega
    obtain ⟨x, hx⟩ := get_lt hlt
    have q1 : (k : Int) < l.length := by omega
    have q2 : ¬ l.length ≤ k := by omega
    have hw := w64_succ hlt (cap4 hl)
    have hst := ord_step hx
    generalize (l.take k).foldl insU [] = out at h1 hol hst
    have ht : List.take k (out.map uc) = out.map uc := List.take_of_length_le (by simp [hol])
    have hle : k ≤ out.length := by omega
    repeat (first | refine N.seq ?_ | refine N.blk ?_ | refine W.seq rfl ?_ | refine W.block rfl ?_ | refine W.skip rfl ?_ | refine W.ret rfl ?_ | refine N.nil ?_ | refine N.loop ?_ | refine W.exit rfl ?_ | refine X.seq ?_ | refine X.loop ?_ | refine X.hit ?_ | refine X.pass (by decide) ?_ | refine W.region tm no_specs rfl (by conv => lhs; simp [q1]) fun _ => ?_ | refine W.regionD tm no_specs rfl (by conv => lhs; simp [q1]) (by conv => lhs; simp) (by kernel_rfl) fun _ => ?_)
    refine W.condT rfl (by rfl) ?_
    repeat (first | refine N.seq ?_ | refine N.blk ?_ | refine W.seq rfl ?_ | refine W.block rfl ?_ | refine W.skip rfl ?_ | refine W.ret rfl ?_ | refine N.nil ?_ | refine N.loop ?_ | refine W.exit rfl ?_ | refine X.seq ?_ | refine X.loop ?_ | refine X.hit ?_ | refine X.pass (by decide) ?_)
    refine W.frz 3 rfl (by conv => lhs; simp [frqT, frqV, frqVs, frqL, frq1, h1, uB, ht, hle]) ?_
    repeat (first | refine N.seq ?_ | refine N.blk ?_ | refine W.seq rfl ?_ | refine W.block rfl ?_ | refine W.skip rfl ?_ | refine W.ret rfl ?_ | refine N.nil ?_ | refine N.loop ?_ | refine W.exit rfl ?_ | refine X.seq ?_ | refine X.loop ?_ | refine X.hit ?_ | refine X.pass (by decide) ?_ | refine W.region tm no_specs rfl (by conv => lhs; simp) fun _ => ?_ | refine W.regionD tm no_specs rfl (by conv => lhs; simp) (by conv => lhs; simp) (by kernel_rfl) fun _ => ?_)
    refine W.loop rfl (ι := { j : Nat // j ≤ pre (lt1 x) out })
      (fun j => ⟨45, [(0, .list 1 (l.map uc)), (3, .list 1 (out.map uc)), (4, .int .i64 (k : Nat)), (5, .int .i64 (j.1 : Nat))], st h 480 { gen := g, kind := 1, elem := 55, size := 1, inl := true, rows := out.map uc }⟩) (fun j => pre (lt1 x) out - j.1)
      ⟨0, by simp⟩ (AS.le_of rfl ⟨rfl, rfl, rfl, rfl, trivial⟩ (fun _ => rfl)) ?_
    rintro ⟨j, hj⟩
    dsimp only at hj ⊢
    have hpl := pre_le (lt1 x) out
    have hx' : (l.map uc)[k]? = some (uc x) := by simp [hx]
    by_cases hj2 : j = pre (lt1 x) out
    · have hjk : j ≤ out.length := by omega
      have hmin : min j out.length = j := by omega
      have z1 : j * 8 ≤ 140737488355328 := by omega
      have z2 : (j + 1) * 8 ≤ 140737488355328 := by omega
      have z3 : (j + 1 + (out.length - j)) * 8 ≤ 140737488355328 := by omega
      have z6 : j ≤ 9223372036854775807 := by omega
      have hf1 : firstRows j (List.take j (out.map uc)) = List.take j (out.map uc) := firstRows_full (by simp; omega)
      have hf2 : firstRows (j + 1) (List.take j (out.map uc) ++ [[AV.int .u64 x]]) = List.take j (out.map uc) ++ [[AV.int .u64 x]] := firstRows_full (by simp; omega)
      have z4 : j ≤ 9223372036854775806 := by omega
      have z5 : j + 1 + (out.length - j) ≤ 9223372036854775807 := by omega
      rcases Nat.lt_or_ge j out.length with hjl | hjl
      · obtain ⟨y, hy⟩ := get_lt hjl
        have hyx : ¬ y < x := by
          have := pre_ge (p := lt1 x) (by rw [← hj2]; exact hy)
          simpa [lt1] using this
        have q3 : (j : Int) < out.length := by omega
        have q4 : ¬ out.length ≤ j := by omega
        repeat (first | refine N.seq ?_ | refine N.blk ?_ | refine W.seq rfl ?_ | refine W.block rfl ?_ | refine W.skip rfl ?_ | refine W.ret rfl ?_ | refine N.nil ?_ | refine N.loop ?_ | refine W.exit rfl ?_ | refine X.seq ?_ | refine X.loop ?_ | refine X.hit ?_ | refine X.pass (by decide) ?_ | refine W.condT rfl (by rfl) ?_ | refine W.condF rfl (by rfl) ?_ | refine W.region tm no_specs rfl (by conv => lhs; simp [q1, q2, q3, q4, hx, hy, hyx, uc, hjk, hmin, z1, z2, z3, z4, z5, z6, hf1, hf2, hw, maxLen]) fun _ => ?_ | refine W.regionD tm no_specs rfl (by conv => lhs; simp [q1, q2, q3, q4, hx, hy, hyx, uc, hjk, hmin, z1, z2, z3, z4, z5, z6, hf1, hf2, hw, maxLen]) (by conv => lhs; simp) (by kernel_rfl) fun _ => ?_)
        refine ⟨⟨(k + 1, _, _), hlt, ?_⟩, by dsimp only; omega, AS.le_of rfl ⟨rfl, by simp [lk]; exact ⟨rfl, by omega⟩, rfl, trivial⟩ (fun _ => rfl)⟩
        simp [lk_st, uB, hst, insU, uc, ← hj2]
      · have q3 : ¬ (j : Int) < out.length := by omega
        repeat (first | refine N.seq ?_ | refine N.blk ?_ | refine W.seq rfl ?_ | refine W.block rfl ?_ | refine W.skip rfl ?_ | refine W.ret rfl ?_ | refine N.nil ?_ | refine N.loop ?_ | refine W.exit rfl ?_ | refine X.seq ?_ | refine X.loop ?_ | refine X.hit ?_ | refine X.pass (by decide) ?_ | refine W.condT rfl (by rfl) ?_ | refine W.condF rfl (by rfl) ?_ | refine W.region tm no_specs rfl (by conv => lhs; simp [q1, q2, q3, hx, uc, hjk, hmin, z1, z2, z3, z4, z5, z6, hf1, hf2, hw, maxLen]) fun _ => ?_ | refine W.regionD tm no_specs rfl (by conv => lhs; simp [q1, q2, q3, hx, uc, hjk, hmin, z1, z2, z3, z4, z5, z6, hf1, hf2, hw, maxLen]) (by conv => lhs; simp) (by kernel_rfl) fun _ => ?_)
        refine ⟨⟨(k + 1, _, _), hlt, ?_⟩, by dsimp only; omega, AS.le_of rfl ⟨rfl, by simp [lk]; exact ⟨rfl, by omega⟩, rfl, trivial⟩ (fun _ => rfl)⟩
        simp [lk_st, uB, hst, insU, uc, ← hj2]
    · have hjlt : j < pre (lt1 x) out := by omega
      have hjl : j < out.length := by omega
      obtain ⟨y, hy⟩ := get_lt hjl
      have hyx : y < x := by
        have := pre_lt hjlt hy
        simpa [lt1] using this
      have q3 : (j : Int) < out.length := by omega
      have q4 : ¬ out.length ≤ j := by omega
      have hwj : IntKind.i64.wrap ((j : Int) + 1) = ((j + 1 : Nat) : Int) := w64 (by omega) (by omega)
      repeat (first | refine N.seq ?_ | refine N.blk ?_ | refine W.seq rfl ?_ | refine W.block rfl ?_ | refine W.skip rfl ?_ | refine W.ret rfl ?_ | refine N.nil ?_ | refine N.loop ?_ | refine W.exit rfl ?_ | refine X.seq ?_ | refine X.loop ?_ | refine X.hit ?_ | refine X.pass (by decide) ?_ | refine W.condT rfl (by rfl) ?_ | refine W.condF rfl (by rfl) ?_ | refine W.region tm no_specs rfl (by conv => lhs; simp [q1, q2, q3, q4, hx, hy, hyx, hwj, uc]) fun _ => ?_ | refine W.regionD tm no_specs rfl (by conv => lhs; simp [q1, q2, q3, q4, hx, hy, hyx, hwj, uc]) (by conv => lhs; simp) (by kernel_rfl) fun _ => ?_)
      exact ⟨⟨j + 1, by omega⟩, by dsimp only; omega, AS.le_of rfl ⟨rfl, rfl, rfl, rfl, trivial⟩ (fun _ => rfl)⟩
end Go.Abs.Po
namespace Go.Abs.Po
open Go Go.Proofs Go.Abs
set_option maxRecDepth 100000
set_option maxHeartbeats 4000000
set_option linter.unusedSimpArgs false
set_option linter.unusedVariables false
attribute [local simp] runL stepA execA_eq skipA run_ret run_fail run_get run_put run_asm num lk st lk_st putA AS.ev ofValue ofFlat mkv splice fieldAddrA buildA fillA runF gdst pickA unOpA extractA resVs resV pack frzT inlT inlV frzV frzVs frzL frz1 newId AV.cellsOf AV.flat AV.flat2 specOf loadA_runR capA copyA copyTo srcA sliceCA slice3A appendZA extA AV.place lenCA clearA clearTo expG expB3 List.zipWith renL fF handB renB AV.ren backF backL idsOf freshIds refsL refsB AV.refs List.range List.range.loop placesA sliceRows rowsOf convertA sliceArrA sliceA bndA nilCheckA arrayAtA mmA lookupA keyOf keyOK findA keyEqA foundA makeMapA mapUpdateA appendA rowsA indexA partA fieldA retE2 frqT frqV frqVs frqL frq1 reachE blkRefs outE nodupE firstE seqO expB2 expF instA take_len_map
/-! ### The sooner of two talks -/
def soon (x y : Tk) : Bool := if x.c = y.c then decide (x.a < y.a) || (x.a == y.a && decide (x.b < y.b)) else decide (y.c < x.c)
def encTT (x : Tk × Tk) : List AV := [.agg x.1.cells, .agg x.2.cells]
theorem encTT_inj {β : Type} {f : Tk × Tk → β} : ∀ x y, encTT x = encTT y → f x = f y := fun x y h => by
  simp only [encTT, List.cons.injEq, AV.agg.injEq, and_true] at h
  rw [Prod.ext (Tk.inj _ _ h.1) (Tk.inj _ _ h.2)]
noncomputable def soonS : SpecFn := mkS encTT fun x => (.bool (soon x.1 x.2), [])
theorem soonS_eq (x y : Tk) : soonS [.agg [.int .u64 x.a, .int .u64 x.b, .int .i64 x.c], .agg [.int .u64 y.a, .int .u64 y.b, .int .i64 y.c]] [] = some (.bool (soon x y), []) := mkS_eq (enc := encTT) encTT_inj (x, y)
theorem soon_ok : FnC Try.prog 71 soonS := by
  refine FnC.walk 71 (fn := Try.f71) Try.func71 rfl (by kernel_rfl) fun x => ?_
  obtain ⟨x, y⟩ := x
  change W _ _ _ _ ⟨34, [(0, .agg x.cells), (1, .agg y.cells)], []⟩
  dsimp only
  by_cases h : x.c = y.c
  · have hb : (x.c != y.c) = false := by simpa using h
    simp only [soon, if_pos h]
    by_cases h1 : x.a < y.a
    · repeat (first | refine N.seq ?_ | refine N.blk ?_ | refine W.seq rfl ?_ | refine W.block rfl ?_ | refine W.skip rfl ?_ | refine W.ret rfl ?_ | refine N.nil ?_ | refine N.loop ?_ | refine W.exit rfl ?_ | refine X.seq ?_ | refine X.loop ?_ | refine X.hit ?_ | refine X.pass (by decide) ?_ | refine W.condT rfl (by rfl) ?_ | refine W.condF rfl (by rfl) ?_ | refine W.region tm no_specs rfl (by conv => lhs; simp [Tk.cells, hb, h1]) fun _ => ?_ | refine W.regionD tm no_specs rfl (by conv => lhs; simp [Tk.cells, hb, h1]) (by conv => lhs; simp) (by kernel_rfl) fun _ => ?_)
      simp only [h1, decide_true, Bool.true_or]
      first | exact Ret.dataR rfl (by conv => lhs; simp) (by conv => lhs; simp) (by first | rfl | simp [inlT, inlV]) | fail "no return here"
    · by_cases h2 : x.a = y.a
      · have h2' : (x.a == y.a) = true := by simpa using h2
        repeat (first | refine N.seq ?_ | refine N.blk ?_ | refine W.seq rfl ?_ | refine W.block rfl ?_ | refine W.skip rfl ?_ | refine W.ret rfl ?_ | refine N.nil ?_ | refine N.loop ?_ | refine W.exit rfl ?_ | refine X.seq ?_ | refine X.loop ?_ | refine X.hit ?_ | refine X.pass (by decide) ?_ | refine W.condT rfl (by rfl) ?_ | refine W.condF rfl (by rfl) ?_ | refine W.region tm no_specs rfl (by conv => lhs; simp [Tk.cells, hb, h1, h2']) fun _ => ?_ | refine W.regionD tm no_specs rfl (by conv => lhs; simp [Tk.cells, hb, h1, h2']) (by conv => lhs; simp) (by kernel_rfl) fun _ => ?_)
        simp only [h1, h2', decide_false, Bool.false_or, Bool.true_and]
        first | exact Ret.dataR rfl (by conv => lhs; simp) (by conv => lhs; simp) (by first | rfl | simp [inlT, inlV]) | fail "no return here"
      · have h2' : (x.a == y.a) = false := by simpa using h2
        repeat (first | refine N.seq ?_ | refine N.blk ?_ | refine W.seq rfl ?_ | refine W.block rfl ?_ | refine W.skip rfl ?_ | refine W.ret rfl ?_ | refine N.nil ?_ | refine N.loop ?_ | refine W.exit rfl ?_ | refine X.seq ?_ | refine X.loop ?_ | refine X.hit ?_ | refine X.pass (by decide) ?_ | refine W.condT rfl (by rfl) ?_ | refine W.condF rfl (by rfl) ?_ | refine W.region tm no_specs rfl (by conv => lhs; simp [Tk.cells, hb, h1, h2']) fun _ => ?_ | refine W.regionD tm no_specs rfl (by conv => lhs; simp [Tk.cells, hb, h1, h2']) (by conv => lhs; simp) (by kernel_rfl) fun _ => ?_)
        simp only [h1, h2', decide_false, Bool.false_or, Bool.false_and]
        first | exact Ret.dataR rfl (by conv => lhs; simp) (by conv => lhs; simp) (by first | rfl | simp [inlT, inlV]) | fail "no return here"
  · have hb : (x.c != y.c) = true := by simpa using h
    simp only [soon, if_neg h]
    repeat (first | refine N.seq ?_ | refine N.blk ?_ | refine W.seq rfl ?_ | refine W.block rfl ?_ | refine W.skip rfl ?_ | refine W.ret rfl ?_ | refine N.nil ?_ | refine N.loop ?_ | refine W.exit rfl ?_ | refine X.seq ?_ | refine X.loop ?_ | refine X.hit ?_ | refine X.pass (by decide) ?_ | refine W.condT rfl (by rfl) ?_ | refine W.condF rfl (by rfl) ?_ | refine W.region tm no_specs rfl (by conv => lhs; simp [Tk.cells, hb]) fun _ => ?_ | refine W.regionD tm no_specs rfl (by conv => lhs; simp [Tk.cells, hb]) (by conv => lhs; simp) (by kernel_rfl) fun _ => ?_)
    first | exact Ret.dataR rfl (by conv => lhs; simp) (by conv => lhs; simp) (by first | rfl | simp [inlT, inlV]) | fail "no return here"
/-! ### Talks in order -/
def insT (out : List Tk) (x : Tk) : List Tk := out.take (pre (fun y => !soon x y) out) ++ x :: out.drop (pre (fun y => !soon x y) out)
theorem insT_len (out : List Tk) (x : Tk) : (insT out x).length = out.length + 1 := by
  have := pre_le (fun y => !soon x y) out
  simp [insT]; omega
def stepT (m : Int) (out : List Tk) (x : Tk) : List Tk := if x.c < m then out else insT out x
def sortT (m : Int) (l : List Tk) : List Tk := l.foldl (stepT m) []
theorem sortT_step {m : Int} {l : List Tk} {k : Nat} {x : Tk} (h : l[k]? = some x) : sortT m (l.take (k + 1)) = stepT m (sortT m (l.take k)) x := by
  rw [sortT, List.take_add_one, h]
  simp [sortT]
theorem sortT_len (m : Int) (l : List Tk) : (sortT m l).length ≤ l.length := by
  have : ∀ (l acc : List Tk), (l.foldl (stepT m) acc).length ≤ acc.length + l.length := by
    intro l
    induction l with
    | nil => simp
    | cons x r ih =>
      intro acc
      rw [List.foldl_cons]
      refine Nat.le_trans (ih _) ?_
      have : (stepT m acc x).length ≤ acc.length + 1 := by
        unfold stepT
        split
        · omega
        · rw [insT_len]; omega
      rw [List.length_cons]; omega
  have h := this l []
  simpa [sortT] using h
noncomputable def so_specs : NL Spec := [(71, ⟨0, soonS⟩)]
theorem so_specs_ok : ∀ p ∈ so_specs, FnC Try.prog p.1 p.2.fn := by
  simp only [so_specs, List.mem_cons, List.not_mem_nil, or_false]
  rintro p rfl
  exact soon_ok
attribute [local simp] so_specs soonS_eq
def encTI (x : Tks × Int) : List AV := [.list 3 (x.1.1.map Tk.cells), .int .i64 x.2]
theorem encTI_inj {β : Type} {f : Tks × Int → β} : ∀ x y, encTI x = encTI y → f x = f y := fun x y h => by
  simp only [encTI, List.cons.injEq, AV.list.injEq, AV.int.injEq, true_and, and_true] at h
  rw [Prod.ext (Subtype.ext (map_inj Tk.inj h.1)) h.2]
noncomputable def sortTS : SpecFn := mkS encTI fun x => (.list 3 ((sortT x.2 x.1.1).map Tk.cells), [])
theorem sortTS_eq (l : List Tk) (m : Int) (h : l.length ≤ 200) : sortTS [.list 3 (l.map Tk.cells), .int .i64 m] [] = some (.list 3 ((sortT m l).map Tk.cells), []) := mkS_eq (enc := encTI) encTI_inj (⟨l, h⟩, m)
def kB (g : Nat) (l : List Tk) : ABlk := { gen := g, kind := 2, elem := 111, size := 3, inl := true, rows := l.map Tk.cells }
theorem sortT_ok : FnC Try.prog 51 sortTS := by
  refine FnC.walk 51 (fn := Try.f51) Try.func51 rfl (by kernel_rfl) fun x => ?_
  obtain ⟨⟨l, hl⟩, m⟩ := x
  change W _ _ _ _ ⟨55, [(0, .list 3 (l.map Tk.cells)), (1, .int .i64 m)], []⟩
  dsimp only
  repeat (first | refine N.seq ?_ | refine N.blk ?_ | refine W.seq rfl ?_ | refine W.block rfl ?_ | refine W.skip rfl ?_ | refine W.ret rfl ?_ | refine N.nil ?_ | refine N.loop ?_ | refine W.exit rfl ?_ | refine X.seq ?_ | refine X.loop ?_ | refine X.hit ?_ | refine X.pass (by decide) ?_ | refine W.condT rfl (by rfl) ?_ | refine W.condF rfl (by rfl) ?_ | refine W.region tm so_specs_ok rfl (by conv => lhs; simp) fun _ => ?_ | refine W.regionD tm so_specs_ok rfl (by conv => lhs; simp) (by conv => lhs; simp) (by kernel_rfl) fun _ => ?_)
  refine W.phantom (t := 5) 640 111 3 true rfl (by rfl) (by decide) ?_
  refine W.loop rfl (ι := { q : Nat × Nat × NL ABlk // q.1 ≤ l.length ∧ lk q.2.2 640 = some (kB q.2.1 (sortT m (l.take q.1))) })
    (fun q => ⟨55, [(0, .list 3 (l.map Tk.cells)), (1, .int .i64 m), (5, .sl 640 q.1.2.1 0 (sortT m (l.take q.1.1)).length), (6, .int .i64 (q.1.1 : Nat))], q.1.2.2⟩) (fun q => l.length - q.1.1)
    ⟨(0, 0, _), by simp, by rfl⟩ (AS.le_of rfl ⟨rfl, rfl, rfl, rfl, trivial⟩ (fun _ => rfl)) ?_
  rintro ⟨⟨k, g, h⟩, hk, h1⟩
  dsimp only at hk h1 ⊢
  by_cases hk2 : k = l.length
  · subst hk2
    rw [List.take_length] at h1 ⊢
    repeat (first | refine N.seq ?_ | refine N.blk ?_ | refine W.seq rfl ?_ | refine W.block rfl ?_ | refine W.skip rfl ?_ | refine W.ret rfl ?_ | refine N.nil ?_ | refine N.loop ?_ | refine W.exit rfl ?_ | refine X.seq ?_ | refine X.loop ?_ | refine X.hit ?_ | refine X.pass (by decide) ?_ | refine W.condT rfl (by rfl) ?_ | refine W.condF rfl (by rfl) ?_ | refine W.region tm so_specs_ok rfl (by conv => lhs; simp) fun _ => ?_ | refine W.regionD tm so_specs_ok rfl (by conv => lhs; simp) (by conv => lhs; simp) (by kernel_rfl) fun _ => ?_)
    first | exact Ret.dataR rfl (by conv => lhs; simp [h1, kB]) (by conv => lhs; simp [h1, kB]) (by first | rfl | simp [inlT, inlV]) | fail "no return here"
  · have hlt : k < l.length := by omega
    obtain ⟨x, hx⟩ := get_lt hlt
    have q1 : (k : Int) < l.length := by omega
    have q2 : ¬ l.length ≤ k := by omega
    have hw := w64_succ hlt (capX hl)
    have hst := sortT_step (m := m) hx
    have hol : (sortT m (l.take k)).length ≤ 200 := by
      have := sortT_len m (l.take k)
      simp at this; omega
    by_cases hc : x.c < m
    · repeat (first | refine N.seq ?_ | refine N.blk ?_ | refine W.seq rfl ?_ | refine W.block rfl ?_ | refine W.skip rfl ?_ | refine W.ret rfl ?_ | refine N.nil ?_ | refine N.loop ?_ | refine W.exit rfl ?_ | refine X.seq ?_ | refine X.loop ?_ | refine X.hit ?_ | refine X.pass (by decide) ?_ | refine W.condT rfl (by rfl) ?_ | refine W.condF rfl (by rfl) ?_ | refine W.region tm so_specs_ok rfl (by conv => lhs; simp [q1, q2, hx, Tk.cells, hc, hw]) fun _ => ?_ | refine W.regionD tm so_specs_ok rfl (by conv => lhs; simp [q1, q2, hx, Tk.cells, hc, hw]) (by conv => lhs; simp) (by kernel_rfl) fun _ => ?_)
      exact ⟨⟨(k + 1, g, _), hlt, by dsimp only; rw [hst]; simp only [stepT, if_pos hc]; exact h1⟩, by dsimp only; omega, AS.le_of rfl ⟨rfl, rfl, by dsimp only; rw [hst]; simp only [stepT, if_pos hc]; rfl, rfl, trivial⟩ (fun _ => rfl)⟩
    · have hst2 : sortT m (l.take (k + 1)) = insT (sortT m (l.take k)) x := by rw [hst]; simp only [stepT, if_neg hc]
      generalize sortT m (l.take k) = out at h1 hol hst2 ⊢
      repeat (first | refine N.seq ?_ | refine N.blk ?_ | refine W.seq rfl ?_ | refine W.block rfl ?_ | refine W.skip rfl ?_ | refine W.ret rfl ?_ | refine N.nil ?_ | refine N.loop ?_ | refine W.exit rfl ?_ | refine X.seq ?_ | refine X.loop ?_ | refine X.hit ?_ | refine X.pass (by decide) ?_ | refine W.region tm so_specs_ok rfl (by conv => lhs; simp [q1]) fun _ => ?_ | refine W.regionD tm so_specs_ok rfl (by conv => lhs; simp [q1]) (by conv => lhs; simp) (by kernel_rfl) fun _ => ?_)
      refine W.condT rfl (by rfl) ?_
      repeat (first | refine N.seq ?_ | refine N.blk ?_ | refine W.seq rfl ?_ | refine W.block rfl ?_ | refine W.skip rfl ?_ | refine W.ret rfl ?_ | refine N.nil ?_ | refine N.loop ?_ | refine W.exit rfl ?_ | refine X.seq ?_ | refine X.loop ?_ | refine X.hit ?_ | refine X.pass (by decide) ?_ | refine W.region tm so_specs_ok rfl (by conv => lhs; simp [q1, q2, hx, Tk.cells, hc]) fun _ => ?_ | refine W.regionD tm so_specs_ok rfl (by conv => lhs; simp [q1, q2, hx, Tk.cells, hc]) (by conv => lhs; simp) (by kernel_rfl) fun _ => ?_)
      refine W.condF rfl (by rfl) ?_
      refine W.frz 5 rfl (by conv => lhs; simp [frqT, frqV, frqVs, frqL, frq1, h1, kB]) ?_
      repeat (first | refine N.seq ?_ | refine N.blk ?_ | refine W.seq rfl ?_ | refine W.block rfl ?_ | refine W.skip rfl ?_ | refine W.ret rfl ?_ | refine N.nil ?_ | refine N.loop ?_ | refine W.exit rfl ?_ | refine X.seq ?_ | refine X.loop ?_ | refine X.hit ?_ | refine X.pass (by decide) ?_ | refine W.region tm so_specs_ok rfl (by conv => lhs; simp) fun _ => ?_ | refine W.regionD tm so_specs_ok rfl (by conv => lhs; simp) (by conv => lhs; simp) (by kernel_rfl) fun _ => ?_)
      refine W.loop rfl (ι := { j : Nat // j ≤ pre (fun y => !soon x y) out })
        (fun j => ⟨55, [(0, .list 3 (l.map Tk.cells)), (1, .int .i64 m), (5, .list 3 (out.map Tk.cells)), (6, .int .i64 (k : Nat)), (7, .int .i64 (j.1 : Nat))], st h 640 { gen := g, kind := 1, elem := 111, size := 3, inl := true, rows := out.map Tk.cells }⟩) (fun j => pre (fun y => !soon x y) out - j.1)
        ⟨0, by simp⟩ (AS.le_of rfl ⟨rfl, rfl, rfl, rfl, rfl, trivial⟩ (fun _ => rfl)) ?_
      rintro ⟨j, hj⟩
      dsimp only at hj ⊢
      have hpl := pre_le (fun y => !soon x y) out
      by_cases hj2 : j = pre (fun y => !soon x y) out
      · have hjk : j ≤ out.length := by omega
        have hmin : min j out.length = j := by omega
        have z1 : j * 24 ≤ 140737488355328 := by omega
        have z2 : (j + 1) * 24 ≤ 140737488355328 := by omega
        have z3 : (j + 1 + (out.length - j)) * 24 ≤ 140737488355328 := by omega
        have z6 : j ≤ 9223372036854775807 := by omega
        have hf1 : firstRows j (List.take j (out.map Tk.cells)) = List.take j (out.map Tk.cells) := firstRows_full (by simp; omega)
        have hf2 : firstRows (j + 1) (List.take j (out.map Tk.cells) ++ [[AV.int .u64 x.a, AV.int .u64 x.b, AV.int .i64 x.c]]) = List.take j (out.map Tk.cells) ++ [[AV.int .u64 x.a, AV.int .u64 x.b, AV.int .i64 x.c]] := firstRows_full (by simp; omega)
        have z4 : j ≤ 9223372036854775806 := by omega
        have z5 : j + 1 + (out.length - j) ≤ 9223372036854775807 := by omega
        have hil : (insT out x).length = j + 1 + (out.length - j) := by rw [insT_len]; omega
        rcases Nat.lt_or_ge j out.length with hjl | hjl
        · obtain ⟨y, hy⟩ := get_lt hjl
          have hyx : soon x y = true := by
            have := pre_ge (p := fun y => !soon x y) (by rw [← hj2]; exact hy)
            simpa using this
          have q3 : (j : Int) < out.length := by omega
          have q4 : ¬ out.length ≤ j := by omega
          repeat (first | refine N.seq ?_ | refine N.blk ?_ | refine W.seq rfl ?_ | refine W.block rfl ?_ | refine W.skip rfl ?_ | refine W.ret rfl ?_ | refine N.nil ?_ | refine N.loop ?_ | refine W.exit rfl ?_ | refine X.seq ?_ | refine X.loop ?_ | refine X.hit ?_ | refine X.pass (by decide) ?_ | refine W.condT rfl (by rfl) ?_ | refine W.condF rfl (by rfl) ?_ | refine W.region tm so_specs_ok rfl (by conv => lhs; simp [q1, q2, q3, q4, hx, hy, hyx, Tk.cells, hjk, hmin, z1, z2, z3, z4, z5, z6, hf1, hf2, hw, maxLen]) fun _ => ?_ | refine W.regionD tm so_specs_ok rfl (by conv => lhs; simp [q1, q2, q3, q4, hx, hy, hyx, Tk.cells, hjk, hmin, z1, z2, z3, z4, z5, z6, hf1, hf2, hw, maxLen]) (by conv => lhs; simp) (by kernel_rfl) fun _ => ?_)
          refine ⟨⟨(k + 1, _, _), hlt, ?_⟩, by dsimp only; omega, AS.le_of rfl ⟨rfl, rfl, by dsimp only; rw [hst2, hil]; rfl, rfl, trivial⟩ (fun _ => rfl)⟩
          dsimp only
          rw [hst2]
          simp [lk_st, kB, insT, Tk.cells, ← hj2]
        · have q3 : ¬ (j : Int) < out.length := by omega
          repeat (first | refine N.seq ?_ | refine N.blk ?_ | refine W.seq rfl ?_ | refine W.block rfl ?_ | refine W.skip rfl ?_ | refine W.ret rfl ?_ | refine N.nil ?_ | refine N.loop ?_ | refine W.exit rfl ?_ | refine X.seq ?_ | refine X.loop ?_ | refine X.hit ?_ | refine X.pass (by decide) ?_ | refine W.condT rfl (by rfl) ?_ | refine W.condF rfl (by rfl) ?_ | refine W.region tm so_specs_ok rfl (by conv => lhs; simp [q1, q2, q3, hx, Tk.cells, hjk, hmin, z1, z2, z3, z4, z5, z6, hf1, hf2, hw, maxLen]) fun _ => ?_ | refine W.regionD tm so_specs_ok rfl (by conv => lhs; simp [q1, q2, q3, hx, Tk.cells, hjk, hmin, z1, z2, z3, z4, z5, z6, hf1, hf2, hw, maxLen]) (by conv => lhs; simp) (by kernel_rfl) fun _ => ?_)
          refine ⟨⟨(k + 1, _, _), hlt, ?_⟩, by dsimp only; omega, AS.le_of rfl ⟨rfl, rfl, by dsimp only; rw [hst2, hil]; rfl, rfl, trivial⟩ (fun _ => rfl)⟩
          dsimp only
          rw [hst2]
          simp [lk_st, kB, insT, Tk.cells, ← hj2]
      · have hjlt : j < pre (fun y => !soon x y) out := by omega
        have hjl : j < out.length := by omega
        obtain ⟨y, hy⟩ := get_lt hjl
        have hyx : soon x y = false := by
          have := pre_lt hjlt hy
          simpa using this
        have q3 : (j : Int) < out.length := by omega
        have q4 : ¬ out.length ≤ j := by omega
        have hwj : IntKind.i64.wrap ((j : Int) + 1) = ((j + 1 : Nat) : Int) := w64 (by omega) (by omega)
        repeat (first | refine N.seq ?_ | refine N.blk ?_ | refine W.seq rfl ?_ | refine W.block rfl ?_ | refine W.skip rfl ?_ | refine W.ret rfl ?_ | refine N.nil ?_ | refine N.loop ?_ | refine W.exit rfl ?_ | refine X.seq ?_ | refine X.loop ?_ | refine X.hit ?_ | refine X.pass (by decide) ?_ | refine W.condT rfl (by rfl) ?_ | refine W.condF rfl (by rfl) ?_ | refine W.region tm so_specs_ok rfl (by conv => lhs; simp [q1, q2, q3, q4, hx, hy, hyx, hwj, Tk.cells]) fun _ => ?_ | refine W.regionD tm so_specs_ok rfl (by conv => lhs; simp [q1, q2, q3, q4, hx, hy, hyx, hwj, Tk.cells]) (by conv => lhs; simp) (by kernel_rfl) fun _ => ?_)
        exact ⟨⟨j + 1, by omega⟩, by dsimp only; omega, AS.le_of rfl ⟨rfl, rfl, rfl, rfl, rfl, trivial⟩ (fun _ => rfl)⟩
/-! ### Where a process is -/
def gL (g : List Int) : List AV := [.list 1 (g.map uc)]
def whr : List (List Int) → Int → Nat → Int
  | [], _, _ => -1
  | g :: r, y, k => if has g y = true then (k : Int) else whr r y (k + 1)
theorem whr_lt (gs : List (List Int)) (y : Int) : ∀ k, whr gs y k = -1 ∨ (k : Int) ≤ whr gs y k ∧ whr gs y k < (k : Int) + gs.length := by
  induction gs with
  | nil => intro k; exact .inl rfl
  | cons g r ih =>
    intro k
    simp only [whr]
    split
    · right; simp; omega
    · rcases ih (k + 1) with h | h
      · exact .inl h
      · right; simp only [List.length_cons]; omega
theorem gL_inj (x y : List Int) (h : gL x = gL y) : x = y := by
  simp only [gL, List.cons.injEq, AV.list.injEq, true_and, and_true] at h
  exact map_inj uc_inj h
def GsI := { x : List (List Int) // x.length ≤ 400 ∧ ∀ g ∈ x, g.length ≤ 400 }
def encGI (x : GsI × Int) : List AV := [.list 1 (x.1.1.map gL), .int .u64 x.2]
theorem encGI_inj {β : Type} {f : GsI × Int → β} : ∀ x y, encGI x = encGI y → f x = f y := fun x y h => by
  simp only [encGI, List.cons.injEq, AV.list.injEq, AV.int.injEq, true_and, and_true] at h
  rw [Prod.ext (Subtype.ext (map_inj gL_inj h.1)) h.2]
noncomputable def whrS : SpecFn := mkS encGI fun x => (.int .i64 (whr x.1.1 x.2 0), [])
theorem whrS_eq (gs : List (List Int)) (y : Int) (h : gs.length ≤ 400) (h' : ∀ g ∈ gs, g.length ≤ 400) : whrS [.list 1 (gs.map gL), .int .u64 y] [] = some (.int .i64 (whr gs y 0), []) := mkS_eq (enc := encGI) encGI_inj (⟨gs, h, h'⟩, y)
noncomputable def wh_specs : NL Spec := [(70, ⟨0, hasS⟩)]
theorem wh_specs_ok : ∀ p ∈ wh_specs, FnC Try.prog p.1 p.2.fn := by
  simp only [wh_specs, List.mem_cons, List.not_mem_nil, or_false]
  rintro p rfl
  exact has_ok
attribute [local simp] wh_specs
theorem whr_ok : FnC Try.prog 52 whrS := by
  refine FnC.walk 52 (fn := Try.f52) Try.func52 rfl (by kernel_rfl) fun x => ?_
  obtain ⟨⟨gs, hl, hg⟩, y⟩ := x
  change W _ _ _ _ ⟨19, [(0, .list 1 (gs.map gL)), (1, .int .u64 y)], []⟩
  dsimp only
  repeat (first | refine N.seq ?_ | refine N.blk ?_ | refine W.seq rfl ?_ | refine W.block rfl ?_ | refine W.skip rfl ?_ | refine W.ret rfl ?_ | refine N.nil ?_ | refine N.loop ?_ | refine W.exit rfl ?_ | refine X.seq ?_ | refine X.loop ?_ | refine X.hit ?_ | refine X.pass (by decide) ?_ | refine W.condT rfl (by rfl) ?_ | refine W.condF rfl (by rfl) ?_ | refine W.region tm wh_specs_ok rfl (by conv => lhs; simp) fun _ => ?_ | refine W.regionD tm wh_specs_ok rfl (by conv => lhs; simp) (by conv => lhs; simp) (by kernel_rfl) fun _ => ?_)
  refine W.loop rfl (ι := { k : Nat // k ≤ gs.length ∧ whr gs y 0 = whr (gs.drop k) y k })
    (fun k => ⟨19, [(0, .list 1 (gs.map gL)), (1, .int .u64 y), (5, .int .i64 (k.1 : Nat))], []⟩) (fun k => gs.length - k.1)
    ⟨0, by simp, rfl⟩ (AS.le_of rfl ⟨rfl, rfl, rfl, trivial⟩ (fun _ => rfl)) ?_
  rintro ⟨k, hk, hi⟩
  dsimp only at hk hi ⊢
  rw [hi]
  by_cases hk2 : k = gs.length
  · subst hk2
    repeat (first | refine N.seq ?_ | refine N.blk ?_ | refine W.seq rfl ?_ | refine W.block rfl ?_ | refine W.skip rfl ?_ | refine W.ret rfl ?_ | refine N.nil ?_ | refine N.loop ?_ | refine W.exit rfl ?_ | refine X.seq ?_ | refine X.loop ?_ | refine X.hit ?_ | refine X.pass (by decide) ?_ | refine W.condT rfl (by rfl) ?_ | refine W.condF rfl (by rfl) ?_ | refine W.region tm wh_specs_ok rfl (by conv => lhs; simp) fun _ => ?_ | refine W.regionD tm wh_specs_ok rfl (by conv => lhs; simp) (by conv => lhs; simp) (by kernel_rfl) fun _ => ?_)
    rw [List.drop_length]
    simp only [whr]
    first | exact Ret.dataR rfl (by conv => lhs; simp) (by conv => lhs; simp) (by first | rfl | simp [inlT, inlV]) | fail "no return here"
  · have hlt : k < gs.length := by omega
    obtain ⟨g, hx⟩ := get_lt hlt
    have q1 : (k : Int) < gs.length := by omega
    have q2 : ¬ gs.length ≤ k := by omega
    have hw := w64_succ hlt (cap4 hl)
    have hH := hasS_eq g y (hg g (List.mem_of_getElem? hx))
    rw [dropG hx]
    cases hh : has g y with
    | true =>
      rw [hh] at hH
      repeat (first | refine N.seq ?_ | refine N.blk ?_ | refine W.seq rfl ?_ | refine W.block rfl ?_ | refine W.skip rfl ?_ | refine W.ret rfl ?_ | refine N.nil ?_ | refine N.loop ?_ | refine W.exit rfl ?_ | refine X.seq ?_ | refine X.loop ?_ | refine X.hit ?_ | refine X.pass (by decide) ?_ | refine W.condT rfl (by rfl) ?_ | refine W.condF rfl (by rfl) ?_ | refine W.region tm wh_specs_ok rfl (by conv => lhs; simp [q1, q2, hx, hH, hw, gL]) fun _ => ?_ | refine W.regionD tm wh_specs_ok rfl (by conv => lhs; simp [q1, q2, hx, hH, hw, gL]) (by conv => lhs; simp) (by kernel_rfl) fun _ => ?_)
      simp only [whr, hh, if_true]
      first | exact Ret.dataR rfl (by conv => lhs; simp) (by conv => lhs; simp) (by first | rfl | simp [inlT, inlV]) | fail "no return here"
    | false =>
      rw [hh] at hH
      repeat (first | refine N.seq ?_ | refine N.blk ?_ | refine W.seq rfl ?_ | refine W.block rfl ?_ | refine W.skip rfl ?_ | refine W.ret rfl ?_ | refine N.nil ?_ | refine N.loop ?_ | refine W.exit rfl ?_ | refine X.seq ?_ | refine X.loop ?_ | refine X.hit ?_ | refine X.pass (by decide) ?_ | refine W.condT rfl (by rfl) ?_ | refine W.condF rfl (by rfl) ?_ | refine W.region tm wh_specs_ok rfl (by conv => lhs; simp [q1, q2, hx, hH, hw, gL]) fun _ => ?_ | refine W.regionD tm wh_specs_ok rfl (by conv => lhs; simp [q1, q2, hx, hH, hw, gL]) (by conv => lhs; simp) (by kernel_rfl) fun _ => ?_)
      exact ⟨⟨k + 1, hlt, by simp [whr, hh]⟩, by dsimp only; omega, AS.le_of rfl ⟨rfl, rfl, rfl, trivial⟩ (fun _ => rfl)⟩
end Go.Abs.Po
