/- Noting as the reference does. Conditions: none. -/
import Derived.Test.YtffoafkdoclfcaaGrE
namespace Go.Abs.Gr
open Go Go.Proofs Go.Abs
set_option maxRecDepth 100000
set_option maxHeartbeats 4000000
set_option linter.unusedSimpArgs false
set_option linter.unusedVariables false
theorem pq_true (x : Tk) (a b c : Int) : pq true ⟨a, b, c⟩ x = (x.a == a && x.b == b) := by
  simp only [pq, byP, cmpI, if_true]
  by_cases h1 : x.a = a
  · subst h1
    simp only [Int.lt_irrefl, if_false, if_true, BEq.rfl, Bool.true_and]
    by_cases h2 : x.b = b
    · subst h2; simp
    · by_cases h3 : x.b < b
      · simp [h2, h3]
      · have : b < x.b := by omega
        simp [h2, h3, this]
  · by_cases h3 : x.a < a
    · simp [h1, h3]
    · have : a < x.a := by omega
      simp [h1, h3, this]
theorem pq_false (x : Tk) (a b c : Int) : pq false ⟨a, b, c⟩ x = !(decide (x.a < a) || (x.a == a && decide (x.b ≤ b))) := by
  simp only [pq, byP, cmpI]
  by_cases h1 : x.a = a
  · subst h1
    simp only [Int.lt_irrefl, if_false, if_true, BEq.rfl, Bool.true_and]
    by_cases h3 : x.b < b
    · have : x.b ≤ b := by omega
      simp [h3, this]
    · by_cases h4 : b < x.b
      · have : ¬ x.b ≤ b := by omega
        simp [h3, h4, this]
      · have : x.b ≤ b := by omega
        simp [h3, h4, this]
  · by_cases h3 : x.a < a
    · simp [h1, h3]
    · have : a < x.a := by omega
      simp [h1, h3, this]
attribute [local simp] runL stepA execA_eq skipA run_ret run_fail run_get run_put run_asm num lk st lk_st putA AS.ev ofValue ofFlat mkv splice fieldAddrA buildA fillA runF gdst pickA unOpA extractA resVs resV pack frzT inlT inlV frzV frzVs frzL frz1 newId AV.cellsOf AV.flat AV.flat2 specOf loadA_runR capA copyA copyTo srcA sliceCA slice3A appendZA extA AV.place lenCA clearA clearTo expG expB3 List.zipWith renL fF handB renB AV.ren backF backL idsOf freshIds refsL refsB AV.refs List.range List.range.loop placesA sliceRows rowsOf convertA sliceArrA sliceA bndA nilCheckA arrayAtA mmA lookupA keyOf keyOK findA keyEqA foundA makeMapA mapUpdateA appendA rowsA indexA partA fieldA retE2 frqT frqV frqVs frqL frq1 reachE blkRefs outE nodupE firstE seqO expB2 expF 
def encNr (x : Tks × Int × Int) : List AV := [.list 3 (x.1.1.map Tk.cells), .int .u64 x.2.1, .int .u64 x.2.2]
theorem encNr_inj {β : Type} {f : Tks × Int × Int → β} : ∀ x y, encNr x = encNr y → f x = f y := fun x y h => by
  obtain ⟨l, a, b⟩ := x
  obtain ⟨l', a', b'⟩ := y
  simp only [encNr, Prod.mk.injEq, List.cons.injEq, AV.list.injEq, AV.int.injEq, true_and, and_true] at h
  obtain ⟨h1, rfl, rfl⟩ := h
  rw [Subtype.ext (map_inj Tk.inj h1)]
noncomputable def noterS : SpecFn := mkS encNr fun x => (.list 3 ((note x.1.1 x.2.1 x.2.2).map Tk.cells), [])
theorem noter_ok : FnC Try.prog 12 noterS := by
  refine FnC.walk 12 (fn := Try.f12) Try.func12 rfl (by kernel_rfl) fun x => ?_
  obtain ⟨⟨l, hl⟩, a, b⟩ := x
  change W _ _ _ _ ⟨110, [(0, .list 3 (l.map Tk.cells)), (1, .int .u64 a), (2, .int .u64 b)], []⟩
  repeat (first | refine N.seq ?_ | refine N.blk ?_ | refine W.seqR rfl rfl ?_ | refine W.skip rfl ?_ | refine W.ret rfl ?_ | refine N.nil ?_ | refine N.loop ?_ | refine W.exit rfl ?_ | refine X.seq ?_ | refine X.loop ?_ | refine X.hit ?_ | refine X.pass (by decide) ?_ | refine W.region tm no_specs rfl (by conv => lhs; simp) fun _ => ?_ | refine W.regionD tm no_specs rfl (by conv => lhs; simp) (by conv => lhs; simp) (by kernel_rfl) fun _ => ?_)
  refine W.cut rfl (fun σ => AS.le ⟨110, [(1, .int .u64 (lo a b)), (2, .int .u64 (hi a b)), (6, .nils), (0, .list 3 (l.map Tk.cells))], []⟩ σ) ?_ ?_
  · by_cases h : b < a
    · have h2 : ¬ a < b := by omega
      repeat (first | refine N.seq ?_ | refine N.blk ?_ | refine W.seq rfl ?_ | refine W.block rfl ?_ | refine W.skip rfl ?_ | refine W.ret rfl ?_ | refine N.nil ?_ | refine N.loop ?_ | refine W.exit rfl ?_ | refine X.seq ?_ | refine X.loop ?_ | refine X.hit ?_ | refine X.pass (by decide) ?_ | refine W.condT rfl (by rfl) ?_ | refine W.condF rfl (by rfl) ?_ | refine W.region tm no_specs rfl (by conv => lhs; simp [h]) fun _ => ?_ | refine W.regionD tm no_specs rfl (by conv => lhs; simp [h]) (by conv => lhs; simp) (by kernel_rfl) fun _ => ?_)
      exact AS.le_of rfl (by simp [tmpsIn, lo, hi, h, h2]) (fun _ => rfl)
    · repeat (first | refine N.seq ?_ | refine N.blk ?_ | refine W.seq rfl ?_ | refine W.block rfl ?_ | refine W.skip rfl ?_ | refine W.ret rfl ?_ | refine N.nil ?_ | refine N.loop ?_ | refine W.exit rfl ?_ | refine X.seq ?_ | refine X.loop ?_ | refine X.hit ?_ | refine X.pass (by decide) ?_ | refine W.condT rfl (by rfl) ?_ | refine W.condF rfl (by rfl) ?_ | refine W.region tm no_specs rfl (by conv => lhs; simp [h]) fun _ => ?_ | refine W.regionD tm no_specs rfl (by conv => lhs; simp [h]) (by conv => lhs; simp) (by kernel_rfl) fun _ => ?_)
      refine AS.le_of rfl ?_ (fun _ => rfl)
      by_cases h2 : a < b
      · simp [tmpsIn, lo, hi, h, h2]
      · have : a = b := by omega
        subst this
        simp [tmpsIn, lo, hi]
  · intro σ hσ
    refine W.weak hσ ?_
    clear hσ
    by_cases h0 : lo a b = hi a b ∨ lo a b = 0
    · have hn : note l a b = l := by rw [note, if_pos h0]
      dsimp only
      rw [hn]
      by_cases e1 : lo a b = hi a b
      · have e1 : (lo a b == hi a b) = true := by simpa using e1
        repeat (first | refine N.seq ?_ | refine N.blk ?_ | refine W.seq rfl ?_ | refine W.block rfl ?_ | refine W.skip rfl ?_ | refine W.ret rfl ?_ | refine N.nil ?_ | refine N.loop ?_ | refine W.exit rfl ?_ | refine X.seq ?_ | refine X.loop ?_ | refine X.hit ?_ | refine X.pass (by decide) ?_ | refine W.condT rfl (by rfl) ?_ | refine W.condF rfl (by rfl) ?_ | refine W.region tm no_specs rfl (by conv => lhs; simp [e1]) fun _ => ?_ | refine W.regionD tm no_specs rfl (by conv => lhs; simp [e1]) (by conv => lhs; simp) (by kernel_rfl) fun _ => ?_)
        first | exact Ret.dataR rfl (by conv => lhs; simp) (by conv => lhs; simp) (by first | rfl | simp [inlT, inlV]) | fail "no return here"
      · have e2 : (lo a b == 0) = true := by simpa using h0.resolve_left e1
        have e1 : (lo a b == hi a b) = false := by simpa using e1
        repeat (first | refine N.seq ?_ | refine N.blk ?_ | refine W.seq rfl ?_ | refine W.block rfl ?_ | refine W.skip rfl ?_ | refine W.ret rfl ?_ | refine N.nil ?_ | refine N.loop ?_ | refine W.exit rfl ?_ | refine X.seq ?_ | refine X.loop ?_ | refine X.hit ?_ | refine X.pass (by decide) ?_ | refine W.condT rfl (by rfl) ?_ | refine W.condF rfl (by rfl) ?_ | refine W.region tm no_specs rfl (by conv => lhs; simp [e1, e2]) fun _ => ?_ | refine W.regionD tm no_specs rfl (by conv => lhs; simp [e1, e2]) (by conv => lhs; simp) (by kernel_rfl) fun _ => ?_)
        first | exact Ret.dataR rfl (by conv => lhs; simp) (by conv => lhs; simp) (by first | rfl | simp [inlT, inlV]) | fail "no return here"
    · have e1 : (lo a b == hi a b) = false := by simpa using fun h => h0 (.inl h)
      have e2 : (lo a b == 0) = false := by simpa using fun h => h0 (.inr h)
      have b0 := capB hl
      repeat (first | refine N.seq ?_ | refine N.blk ?_ | refine W.seq rfl ?_ | refine W.block rfl ?_ | refine W.skip rfl ?_ | refine W.ret rfl ?_ | refine N.nil ?_ | refine N.loop ?_ | refine W.exit rfl ?_ | refine X.seq ?_ | refine X.loop ?_ | refine X.hit ?_ | refine X.pass (by decide) ?_ | refine W.condT rfl (by rfl) ?_ | refine W.condF rfl (by rfl) ?_ | refine W.region tm no_specs rfl (by conv => lhs; simp [e1, e2, capL hl, b0, maxLen]) fun _ => ?_ | refine W.regionD tm no_specs rfl (by conv => lhs; simp [e1, e2, capL hl, b0, maxLen]) (by conv => lhs; simp) (by kernel_rfl) fun _ => ?_)
      refine W.loop rfl (ι := { k : Nat // k ≤ l.length ∧ ∀ i y, i < k → l[i]? = some y → pq true ⟨lo a b, hi a b, 1⟩ y = false })
        (fun k => ⟨110, [(0, .list 3 (l.map Tk.cells)), (1, .int .u64 (lo a b)), (2, .int .u64 (hi a b)), (7, .sl 384 2 0 l.length), (8, .int .i64 k.1)], [(384, { gen := 2, kind := 2, elem := 27, size := 3, inl := true, rows := List.map Tk.cells l })]⟩)
        (fun k => l.length - k.1) ⟨0, by omega, fun i y h => by omega⟩ (AS.le_of rfl ⟨rfl, rfl, rfl, rfl, rfl, trivial⟩ (fun _ => rfl)) ?_
      rintro ⟨k, hk, hp⟩
      dsimp only
      by_cases hk2 : k = l.length
      · subst hk2
        have hnone : l.findIdx? (pq true ⟨lo a b, hi a b, 1⟩) = none := by
          rw [List.findIdx?_eq_none_iff]
          intro x hx
          obtain ⟨i, hi, rfl⟩ := List.mem_iff_getElem.1 hx
          exact hp i _ hi (List.getElem?_eq_getElem hi)
        have q : ¬ (l.length : Int) < l.length := by omega
        by_cases hl2 : 128 ≤ l.length
        · have hn : note l a b = l := by rw [note, if_neg h0, hnone]; simp only [if_pos hl2]
          rw [hn]
          have hl3 : (128 : Int) ≤ l.length := by omega
          repeat (first | refine N.seq ?_ | refine N.blk ?_ | refine W.seq rfl ?_ | refine W.block rfl ?_ | refine W.skip rfl ?_ | refine W.ret rfl ?_ | refine N.nil ?_ | refine N.loop ?_ | refine W.exit rfl ?_ | refine X.seq ?_ | refine X.loop ?_ | refine X.hit ?_ | refine X.pass (by decide) ?_ | refine W.condT rfl (by rfl) ?_ | refine W.condF rfl (by rfl) ?_ | refine W.region tm no_specs rfl (by conv => lhs; simp [q, hl3]) fun _ => ?_ | refine W.regionD tm no_specs rfl (by conv => lhs; simp [q, hl3]) (by conv => lhs; simp) (by kernel_rfl) fun _ => ?_)
          first | exact Ret.dataR rfl (by conv => lhs; simp) (by conv => lhs; simp) (by first | rfl | simp [inlT, inlV]) | fail "no return here"
        · have hl3 : ¬ (128 : Int) ≤ l.length := by omega
          have hn : note l a b = ins l (at_ l (pq false ⟨lo a b, hi a b, 1⟩)) ⟨lo a b, hi a b, 1⟩ := by rw [note, if_neg h0, hnone]; simp only [if_neg hl2]
          rw [hn]
          repeat (first | refine N.seq ?_ | refine N.blk ?_ | refine W.seq rfl ?_ | refine W.block rfl ?_ | refine W.skip rfl ?_ | refine W.ret rfl ?_ | refine N.nil ?_ | refine N.loop ?_ | refine W.exit rfl ?_ | refine X.seq ?_ | refine X.loop ?_ | refine X.hit ?_ | refine X.pass (by decide) ?_ | refine W.condT rfl (by rfl) ?_ | refine W.condF rfl (by rfl) ?_ | refine W.region tm no_specs rfl (by conv => lhs; simp [q, hl3]) fun _ => ?_ | refine W.regionD tm no_specs rfl (by conv => lhs; simp [q, hl3]) (by conv => lhs; simp) (by kernel_rfl) fun _ => ?_)
          have hcap : l.length + 1 ≤ 200 := by omega
          have hcapB := capB hcap
          refine W.loop rfl (ι := { k : Nat // k ≤ l.length ∧ ∀ i y, i < k → l[i]? = some y → pq false ⟨lo a b, hi a b, 1⟩ y = false })
            (fun k => ⟨110, [(0, .list 3 (l.map Tk.cells)), (1, .int .u64 (lo a b)), (2, .int .u64 (hi a b)), (7, .sl 384 2 0 l.length), (9, .int .i64 k.1)], [(384, { gen := 2, kind := 2, elem := 27, size := 3, inl := true, rows := List.map Tk.cells l })]⟩)
            (fun k => l.length - k.1) ⟨0, by omega, fun i y h => by omega⟩ (AS.le_of rfl ⟨rfl, rfl, rfl, rfl, rfl, trivial⟩ (fun _ => rfl)) ?_
          rintro ⟨k, hk, hp⟩
          dsimp only
          by_cases hk2 : k = l.length
          · subst hk2
            have hat : at_ l (pq false ⟨lo a b, hi a b, 1⟩) = l.length := by
              have : l.findIdx? (pq false ⟨lo a b, hi a b, 1⟩) = none := by
                rw [List.findIdx?_eq_none_iff]
                intro x hx
                obtain ⟨i, hi, rfl⟩ := List.mem_iff_getElem.1 hx
                exact hp i _ hi (List.getElem?_eq_getElem hi)
              simp [at_, this]
            rw [hat]
            have ht : List.take l.length (l.map Tk.cells) = l.map Tk.cells := List.take_of_length_le (by simp)
            have ht0 : List.drop l.length (l.map Tk.cells) = [] := List.drop_of_length_le (by simp)
            have ht2 : List.take (l.length + 1) (l.map Tk.cells ++ [[AV.int .u64 (lo a b), AV.int .u64 (hi a b), AV.int .i64 1]]) = l.map Tk.cells ++ [[AV.int .u64 (lo a b), AV.int .u64 (hi a b), AV.int .i64 1]] := List.take_of_length_le (by simp)
            repeat (first | refine N.seq ?_ | refine N.blk ?_ | refine W.seq rfl ?_ | refine W.block rfl ?_ | refine W.skip rfl ?_ | refine W.ret rfl ?_ | refine N.nil ?_ | refine N.loop ?_ | refine W.exit rfl ?_ | refine X.seq ?_ | refine X.loop ?_ | refine X.hit ?_ | refine X.pass (by decide) ?_ | refine W.condT rfl (by rfl) ?_ | refine W.condF rfl (by rfl) ?_ | refine W.region tm no_specs rfl (by conv => lhs; simp [q, hl3, maxLen, ht, ht0, capL hcap, hcapB]) fun _ => ?_ | refine W.regionD tm no_specs rfl (by conv => lhs; simp [q, hl3, maxLen, ht, ht0, capL hcap, hcapB]) (by conv => lhs; simp) (by kernel_rfl) fun _ => ?_)
            simp only [ins, List.map_append, List.map_take, List.map_drop, ht, ht0, List.map_cons, Tk.cells]
            first | exact Ret.dataR rfl (by conv => lhs; simp [ht2]) (by conv => lhs; simp [ht2]) (by first | rfl | simp [inlT, inlV]) | fail "no return here"
          · have hlt : k < l.length := by omega
            have q : (k : Int) < l.length := by omega
            have hw := w64_succ hlt (Nat.le_trans hl (by decide))
            rcases Bool.eq_false_or_eq_true (pq false ⟨lo a b, hi a b, 1⟩ l[k]) with hq | hq
            · have hat : at_ l (pq false ⟨lo a b, hi a b, 1⟩) = k := by
                have : l.findIdx? (pq false ⟨lo a b, hi a b, 1⟩) = some k := by
                  rw [List.findIdx?_eq_some_iff_getElem]
                  exact ⟨hlt, hq, fun j hj => by simp [hp j _ hj (List.getElem?_eq_getElem (by omega))]⟩
                simp [at_, this]
              rw [hat]
              have n1 : k + 1 + (l.length - k) ≤ 200 := by omega
              have n3 : k + 1 ≤ 200 := by omega
              have n4 : k ≤ 200 := by omega
              have n2 : k + 1 + (l.length - k) = l.length + 1 := by omega
              have ht : List.take l.length (l.map Tk.cells) = l.map Tk.cells := List.take_of_length_le (by simp)
              have hR : (ins l k ⟨lo a b, hi a b, 1⟩).map Tk.cells = List.take k (l.map Tk.cells) ++ [AV.int .u64 (lo a b), AV.int .u64 (hi a b), AV.int .i64 1] :: List.drop k (l.map Tk.cells) := by
                simp [ins, Tk.cells]
              have hR2 : (List.take k (l.map Tk.cells) ++ [AV.int .u64 (lo a b), AV.int .u64 (hi a b), AV.int .i64 1] :: List.drop k (l.map Tk.cells)).length = k + 1 + (l.length - k) := by
                simp; omega
              rw [hR]
              rw [pq_false] at hq
              by_cases q1 : l[k].a < lo a b
              · simp [q1] at hq
              · by_cases q2 : (l[k].a == lo a b) = true
                · rw [q2] at hq
                  have q3 : ¬ l[k].b ≤ hi a b := by simpa [q1] using hq
                  repeat (first | refine N.seq ?_ | refine N.blk ?_ | refine W.seq rfl ?_ | refine W.block rfl ?_ | refine W.skip rfl ?_ | refine W.ret rfl ?_ | refine N.nil ?_ | refine N.loop ?_ | refine W.exit rfl ?_ | refine X.seq ?_ | refine X.loop ?_ | refine X.hit ?_ | refine X.pass (by decide) ?_ | refine W.condT rfl (by rfl) ?_ | refine W.condF rfl (by rfl) ?_ | refine W.region tm no_specs rfl (by conv => lhs; simp [q, hl3, maxLen, hlt, Tk.cells, q1, q2, q3, hk, capL n1, capB n1, capB n3, capM n4, ht]) fun _ => ?_ | refine W.regionD tm no_specs rfl (by conv => lhs; simp [q, hl3, maxLen, hlt, Tk.cells, q1, q2, q3, hk, capL n1, capB n1, capB n3, capM n4, ht]) (by conv => lhs; simp) (by kernel_rfl) fun _ => ?_)
                  generalize hm : List.take k (l.map Tk.cells) ++ _ :: _ = m at hR2 ⊢
                  have hm2 : m.take (k + 1 + (l.length - k)) = m := List.take_of_length_le (by omega)
                  have hm3 : k + 1 + (l.length - k) ≤ m.length := by omega
                  first | exact Ret.dataR rfl (by conv => lhs; simp [hm2, hm3]) (by conv => lhs; simp [hm2, hm3]) (by first | rfl | simp [inlT, inlV]) | fail "no return here"
                · have q2 : (l[k].a == lo a b) = false := by simpa using q2
                  repeat (first | refine N.seq ?_ | refine N.blk ?_ | refine W.seq rfl ?_ | refine W.block rfl ?_ | refine W.skip rfl ?_ | refine W.ret rfl ?_ | refine N.nil ?_ | refine N.loop ?_ | refine W.exit rfl ?_ | refine X.seq ?_ | refine X.loop ?_ | refine X.hit ?_ | refine X.pass (by decide) ?_ | refine W.condT rfl (by rfl) ?_ | refine W.condF rfl (by rfl) ?_ | refine W.region tm no_specs rfl (by conv => lhs; simp [q, hl3, maxLen, hlt, Tk.cells, q1, q2, hk, capL n1, capB n1, capB n3, capM n4, ht]) fun _ => ?_ | refine W.regionD tm no_specs rfl (by conv => lhs; simp [q, hl3, maxLen, hlt, Tk.cells, q1, q2, hk, capL n1, capB n1, capB n3, capM n4, ht]) (by conv => lhs; simp) (by kernel_rfl) fun _ => ?_)
                  generalize hm : List.take k (l.map Tk.cells) ++ _ :: _ = m at hR2 ⊢
                  have hm2 : m.take (k + 1 + (l.length - k)) = m := List.take_of_length_le (by omega)
                  have hm3 : k + 1 + (l.length - k) ≤ m.length := by omega
                  first | exact Ret.dataR rfl (by conv => lhs; simp [hm2, hm3]) (by conv => lhs; simp [hm2, hm3]) (by first | rfl | simp [inlT, inlV]) | fail "no return here"
            · have hr : ∀ i y, i < k + 1 → l[i]? = some y → pq false ⟨lo a b, hi a b, 1⟩ y = false := fun i y hi hy => by
                by_cases e : i = k
                · subst e; rw [List.getElem?_eq_getElem hlt] at hy; cases hy; exact hq
                · exact hp i y (by omega) hy
              rw [pq_false] at hq
              by_cases q1 : l[k].a < lo a b
              · repeat (first | refine N.seq ?_ | refine N.blk ?_ | refine W.seq rfl ?_ | refine W.block rfl ?_ | refine W.skip rfl ?_ | refine W.ret rfl ?_ | refine N.nil ?_ | refine N.loop ?_ | refine W.exit rfl ?_ | refine X.seq ?_ | refine X.loop ?_ | refine X.hit ?_ | refine X.pass (by decide) ?_ | refine W.condT rfl (by rfl) ?_ | refine W.condF rfl (by rfl) ?_ | refine W.region tm no_specs rfl (by conv => lhs; simp [q, hlt, Tk.cells, q1, hw]) fun _ => ?_ | refine W.regionD tm no_specs rfl (by conv => lhs; simp [q, hlt, Tk.cells, q1, hw]) (by conv => lhs; simp) (by kernel_rfl) fun _ => ?_)
                exact ⟨⟨k + 1, by omega, hr⟩, by dsimp only; omega, AS.le_of rfl ⟨rfl, rfl, rfl, rfl, rfl, trivial⟩ (fun _ => rfl)⟩
              · have q2 : (l[k].a == lo a b) = true ∧ l[k].b ≤ hi a b := by simpa [q1] using hq
                repeat (first | refine N.seq ?_ | refine N.blk ?_ | refine W.seq rfl ?_ | refine W.block rfl ?_ | refine W.skip rfl ?_ | refine W.ret rfl ?_ | refine N.nil ?_ | refine N.loop ?_ | refine W.exit rfl ?_ | refine X.seq ?_ | refine X.loop ?_ | refine X.hit ?_ | refine X.pass (by decide) ?_ | refine W.condT rfl (by rfl) ?_ | refine W.condF rfl (by rfl) ?_ | refine W.region tm no_specs rfl (by conv => lhs; simp [q, hlt, Tk.cells, q1, q2, hw]) fun _ => ?_ | refine W.regionD tm no_specs rfl (by conv => lhs; simp [q, hlt, Tk.cells, q1, q2, hw]) (by conv => lhs; simp) (by kernel_rfl) fun _ => ?_)
                exact ⟨⟨k + 1, by omega, hr⟩, by dsimp only; omega, AS.le_of rfl ⟨rfl, rfl, rfl, rfl, rfl, trivial⟩ (fun _ => rfl)⟩
      · have hlt : k < l.length := by omega
        have q : (k : Int) < l.length := by omega
        have hw := w64_succ hlt (Nat.le_trans hl (by decide))
        rcases Bool.eq_false_or_eq_true (pq true ⟨lo a b, hi a b, 1⟩ l[k]) with hq | hq
        · have hsome : l.findIdx? (pq true ⟨lo a b, hi a b, 1⟩) = some k := by
            rw [List.findIdx?_eq_some_iff_getElem]
            exact ⟨hlt, hq, fun j hj => by simp [hp j _ hj (List.getElem?_eq_getElem (by omega))]⟩
          have hn : note l a b = l.modify k upT := by rw [note, if_neg h0, hsome]
          rw [hn]
          rw [pq_true] at hq
          simp only [Bool.and_eq_true] at hq
          obtain ⟨q1, q2⟩ := hq
          repeat (first | refine N.seq ?_ | refine N.blk ?_ | refine W.seq rfl ?_ | refine W.block rfl ?_ | refine W.skip rfl ?_ | refine W.ret rfl ?_ | refine N.nil ?_ | refine N.loop ?_ | refine W.exit rfl ?_ | refine X.seq ?_ | refine X.loop ?_ | refine X.hit ?_ | refine X.pass (by decide) ?_ | refine W.condT rfl (by rfl) ?_ | refine W.condF rfl (by rfl) ?_ | refine W.region tm no_specs rfl (by conv => lhs; simp [q, hlt, Tk.cells, q1, q2, mmA]) fun _ => ?_ | refine W.regionD tm no_specs rfl (by conv => lhs; simp [q, hlt, Tk.cells, q1, q2, mmA]) (by conv => lhs; simp) (by kernel_rfl) fun _ => ?_)
          simp only [← mod_map l hlt, upT, Tk.cells]
          generalize hm : (List.map Tk.cells l).set k _ = m
          have hm2 : m.take l.length = m := List.take_of_length_le (by rw [← hm]; simp)
          have hm3 : l.length ≤ m.length := by rw [← hm]; simp
          first | exact Ret.dataR rfl (by conv => lhs; simp [hm2, hm3]) (by conv => lhs; simp [hm2, hm3]) (by first | rfl | simp [inlT, inlV]) | fail "no return here"
        · have hr : ∀ i y, i < k + 1 → l[i]? = some y → pq true ⟨lo a b, hi a b, 1⟩ y = false := fun i y hi hy => by
            by_cases e : i = k
            · subst e; rw [List.getElem?_eq_getElem hlt] at hy; cases hy; exact hq
            · exact hp i y (by omega) hy
          rw [pq_true] at hq
          by_cases q1 : (l[k].a == lo a b) = true
          · rw [q1, Bool.true_and] at hq
            repeat (first | refine N.seq ?_ | refine N.blk ?_ | refine W.seq rfl ?_ | refine W.block rfl ?_ | refine W.skip rfl ?_ | refine W.ret rfl ?_ | refine N.nil ?_ | refine N.loop ?_ | refine W.exit rfl ?_ | refine X.seq ?_ | refine X.loop ?_ | refine X.hit ?_ | refine X.pass (by decide) ?_ | refine W.condT rfl (by rfl) ?_ | refine W.condF rfl (by rfl) ?_ | refine W.region tm no_specs rfl (by conv => lhs; simp [q, hlt, Tk.cells, q1, hq, hw]) fun _ => ?_ | refine W.regionD tm no_specs rfl (by conv => lhs; simp [q, hlt, Tk.cells, q1, hq, hw]) (by conv => lhs; simp) (by kernel_rfl) fun _ => ?_)
            exact ⟨⟨k + 1, by omega, hr⟩, by dsimp only; omega, AS.le_of rfl ⟨rfl, rfl, rfl, rfl, rfl, trivial⟩ (fun _ => rfl)⟩
          · have q1 : (l[k].a == lo a b) = false := by simpa using q1
            repeat (first | refine N.seq ?_ | refine N.blk ?_ | refine W.seq rfl ?_ | refine W.block rfl ?_ | refine W.skip rfl ?_ | refine W.ret rfl ?_ | refine N.nil ?_ | refine N.loop ?_ | refine W.exit rfl ?_ | refine X.seq ?_ | refine X.loop ?_ | refine X.hit ?_ | refine X.pass (by decide) ?_ | refine W.condT rfl (by rfl) ?_ | refine W.condF rfl (by rfl) ?_ | refine W.region tm no_specs rfl (by conv => lhs; simp [q, hlt, Tk.cells, q1, hw]) fun _ => ?_ | refine W.regionD tm no_specs rfl (by conv => lhs; simp [q, hlt, Tk.cells, q1, hw]) (by conv => lhs; simp) (by kernel_rfl) fun _ => ?_)
            exact ⟨⟨k + 1, by omega, hr⟩, by dsimp only; omega, AS.le_of rfl ⟨rfl, rfl, rfl, rfl, rfl, trivial⟩ (fun _ => rfl)⟩
end Go.Abs.Gr
