/- What the generator of programs gives. Conditions: none. -/
import Derived.Test.YtldfmgiglcajcaaCpN
namespace Go.Abs.Cp
open Go Go.Proofs Go.Abs
set_option maxRecDepth 100000
set_option maxHeartbeats 4000000
set_option linter.unusedSimpArgs false
set_option linter.unusedVariables false
theorem instr_fun : ∃ (f : List UInt8 → Int → Ins) (g : List UInt8 → Int → List UInt8) (S : SpecFn), FnC Try.prog 12 S ∧ (∀ l n, able (f l n) = true) ∧ ∀ l n, S [.ptr 0 0 0 0, .int .i64 n] [{ gen := 0, kind := 2, elem := 56, size := 1, inl := false, rows := [[.list 1 (l.map byte)]] }] =
    some (.agg (f l n).cells, [{ gen := 0, kind := 2, elem := 56, size := 1, inl := false, rows := [[.list 1 ((g l n).map byte)]] }]) := by
  obtain ⟨S, hS, h⟩ := instr_ok
  have h' : ∀ x : List UInt8 × Int, ∃ p : Ins × List UInt8, able p.1 = true ∧ S (encIn x).1 (encIn x).2 = some (.agg p.1.cells, [diceB p.2]) := fun x => by
    obtain ⟨r, h1, i, l, h2, rfl⟩ := h x
    exact ⟨(i, l), h2, h1⟩
  obtain ⟨f, hf⟩ := Classical.axiomOfChoice h'
  exact ⟨fun l n => (f (l, n)).1, fun l n => (f (l, n)).2, S, hS, fun l n => (hf (l, n)).1, fun l n => (hf (l, n)).2⟩
theorem block_fun : ∃ (f : List UInt8 → List Ins) (g : List UInt8 → List UInt8) (S : SpecFn), FnC Try.prog 26 S ∧ (∀ l, (∀ i ∈ f l, able i = true) ∧ (f l).length ≤ 4) ∧ ∀ l, S [.ptr 0 0 0 0] [{ gen := 0, kind := 2, elem := 56, size := 1, inl := false, rows := [[.list 1 (l.map byte)]] }] =
    some (.sl 1 0 0 (f l).length, [{ gen := 0, kind := 2, elem := 56, size := 1, inl := false, rows := [[.list 1 ((g l).map byte)]] }, { gen := 0, kind := 2, elem := 31, size := 4, inl := true, rows := (f l).map Ins.cells }]) := by
  obtain ⟨S, hS, h⟩ := block_ok
  have h' : ∀ x : List UInt8, ∃ p : List Ins × List UInt8, ((∀ i ∈ p.1, able i = true) ∧ p.1.length ≤ 4) ∧ S (encE x).1 (encE x).2 = some (.sl 1 0 0 p.1.length, [diceB p.2, codeB p.1]) := fun x => by
    obtain ⟨r, h1, c, l, h2, h3, rfl⟩ := h x
    exact ⟨(c, l), ⟨h2, h3⟩, h1⟩
  obtain ⟨f, hf⟩ := Classical.axiomOfChoice h'
  exact ⟨fun l => (f l).1, fun l => (f l).2, S, hS, fun l => (hf l).1, fun l => (hf l).2⟩
/-! ### Paths -/
noncomputable def pathRows : List (List AV) := match runFn Try.prog 100 3 24 [] [] with
  | some (_, [b]) => b.rows
  | _ => []
noncomputable def pathB : ABlk := { gen := 0, kind := 2, elem := 9, size := 1, inl := true, rows := pathRows }
theorem paths_run : runFn Try.prog 100 3 24 [] [] = some (.sl 0 0 0 8, [{ gen := 0, kind := 2, elem := 9, size := 1, inl := true, rows := pathRows }]) := by kernel_rfl
theorem paths_len : pathRows.length = 8 := by kernel_rfl
theorem paths_take : pathRows.take 8 = pathRows := List.take_of_length_le (by rw [paths_len]; omega)
theorem paths_ok : FnC Try.prog 24 (runFn Try.prog 100 3 24) := runFn_ok tm tN 3 24 Try.func24 rfl
theorem take_len_map {α β : Type} (f : α → β) (l : List α) : (l.map f).take l.length = l.map f := List.take_of_length_le (by simp)
theorem assoc1 (a b : Nat) : (a + b + 1 = a + (b + 1)) = True := by simp [Nat.add_assoc]
theorem cap32 {n : Nat} (h : n ≤ 100) : n * 32 ≤ 140737488355328 := by omega
theorem capL {n : Nat} (h : n ≤ 100) : n ≤ 9223372036854775807 := by omega
def tabL : List Int := [10, 11]
/-! ### Programs -/
def PrgP (_ : List UInt8) (r : AV × List ABlk) : Prop := ∃ (code : List Ins) (pages : Int) (l : List UInt8), (∀ i ∈ code, able i = true) ∧ code.length ≤ 61 ∧ r = (.agg [.sl 1 0 0 code.length, .sl 2 0 0 8, .int .i64 pages], [diceB l, codeB code, pathB])
theorem PrgP_mk {P : Program} {fn : Func} {σ : AS} {x : List UInt8} (code : List Ins) (pages : Int) (l : List UInt8) (hc : ∀ i ∈ code, able i = true) (hl : code.length ≤ 61) (h : RetB P fn 1 (.agg [.sl 1 0 0 code.length, .sl 2 0 0 8, .int .i64 pages]) [{ gen := 0, kind := 2, elem := 56, size := 1, inl := false, rows := [[.list 1 (l.map byte)]] }, codeB code, pathB] σ) : ∃ r, PrgP x r ∧ RetB P fn 1 r.1 r.2 σ :=
  ⟨_, ⟨code, pages, l, hc, hl, rfl⟩, h⟩
def LoopI (k : Nat) (code : List Ins) (v : AV) (h : NL ABlk) (l : List UInt8) (pages : Int) : Prop :=
  code.length + 6 * k ≤ 60 ∧ (∀ i ∈ code, able i = true) ∧ lk h 0 = some (diceB l) ∧ lk h 64 = some { gen := 1, kind := 2, elem := 28, size := 3, inl := false, rows := [[v, .sl 112 1 0 8, .int .i64 pages]] } ∧ lk h 112 = some { gen := 1, kind := 2, elem := 9, size := 1, inl := true, rows := pathRows } ∧
  lk h 48 = some { gen := 1, kind := 2, elem := 28, size := 3, inl := false, rows := [[.nils, .nils, .int .i64 0]] } ∧
  ((v = .nils ∧ code = [] ∧ 0 < k) ∨ ∃ g, v = .sl 352 g 0 code.length ∧ lk h 352 = some { gen := g, kind := 2, elem := 31, size := 4, inl := true, rows := code.map Ins.cells })
attribute [local simp] runL stepA execA_eq skipA run_ret run_fail run_get run_put run_asm num lk st lk_st putA AS.ev ofValue ofFlat mkv splice fieldAddrA buildA fillA runF gdst pickA unOpA extractA resVs resV pack frzT inlT inlV frzV frzVs frzL frz1 newId AV.cellsOf AV.flat AV.flat2 specOf loadA_runR renL fF handB renB AV.ren backF backL idsOf freshIds refsL refsB AV.refs List.range List.range.loop placesA sliceRows rowsOf convertA sliceArrA sliceA bndA nilCheckA arrayAtA mmA lookupA keyOf keyOK findA keyEqA foundA makeMapA mapUpdateA appendA rowsA indexA partA fieldA retE2 frqT frqV frqVs frqL frq1 reachE blkRefs outE nodupE firstE seqO expB2 expF diceS_eq'
theorem program_ok : ∃ S, FnC Try.prog 11 S ∧ ∀ x, ∃ r, S (encE x).1 (encE x).2 = some r ∧ PrgP x r := by
  obtain ⟨fI, gI, SI, okI, abI, eqI⟩ := instr_fun
  obtain ⟨fB, gB, SB, okB, abB, eqB⟩ := block_fun
  have ok : ∀ p ∈ ([(12, ⟨3, SI⟩), (24, ⟨3, runFn Try.prog 100 3 24⟩), (25, ⟨3, diceS⟩), (26, ⟨3, SB⟩)] : NL Spec), FnC Try.prog p.1 p.2.fn := by
    simp only [List.mem_cons, List.not_mem_nil, or_false]
    rintro p (rfl | rfl | rfl | rfl)
    · exact okI
    · exact paths_ok
    · exact dice_ok
    · exact okB
  refine FnC.existsB 11 (fn := Try.f11) Try.func11 rfl (by kernel_rfl) (fun x b hb => by simp [encE] at hb; rw [hb]; rfl) enE_inj (fun x => ⟨_, ⟨[], 0, [], by simp, by simp, rfl⟩⟩) fun l => ?_
  change W _ (fun σ => ∃ r, PrgP l r ∧ RetB _ _ 1 r.1 r.2 σ) _ _ ⟨63, [(0, .ptr 0 0 0 0)], [(0, diceB l)]⟩
  have h0 := dn_nonneg (dl l 3) 9
  have h1 := dn_lt (dl l 3) (n := 9) (by omega)
  obtain ⟨k0, hk0⟩ : ∃ k0 : Nat, (k0 : Int) = 2 + dn (dl l 3) 9 := ⟨(2 + dn (dl l 3) 9).toNat, by omega⟩
  have w1 : IntKind.i64.wrap (2 + dn (dl l 3) 9) = k0 := by rw [hk0]; exact w64 (by omega) (by omega)
  repeat (first | refine N.seq ?_ | refine N.blk ?_ | refine W.seq rfl ?_ | refine W.block rfl ?_ | refine W.skip rfl ?_ | refine W.ret rfl ?_ | refine N.nil ?_ | refine N.loop ?_ | refine W.exit rfl ?_ | refine X.seq ?_ | refine X.loop ?_ | refine X.hit ?_ | refine X.pass (by decide) ?_ | refine W.condT rfl (by rfl) ?_ | refine W.condF rfl (by rfl) ?_ | refine W.region tm ok rfl (by conv => lhs; simp [diceB, w1, paths_run, paths_len]) fun _ => ?_ | refine W.regionD tm ok rfl (by conv => lhs; simp [diceB, w1, paths_run, paths_len]) (by conv => lhs; simp) (by kernel_rfl) fun _ => ?_)
  generalize dn l 3 = pages
  refine W.loop rfl (ι := { q : Nat × List Ins × AV × NL ABlk × List UInt8 // LoopI q.1 q.2.1 q.2.2.1 q.2.2.2.1 q.2.2.2.2 pages })
    (fun q => ⟨63, [(0, .ptr 0 0 0 0), (2, .ptr 48 1 0 0), (3, .ptr 64 1 0 0), (4, .int .i64 q.1.1)], q.1.2.2.2.1⟩) (fun q => q.1.1)
    ⟨(k0, [], .nils, _, dl (dl l 3) 9), ?_⟩ (AS.le_of rfl ⟨rfl, rfl, rfl, rfl, trivial⟩ (fun _ => rfl)) ?_
  · exact ⟨by simp; omega, by simp, by rfl, by rfl, by rfl, by rfl, .inl ⟨rfl, rfl, by omega⟩⟩
  clear w1 hk0 h0 h1
  rintro ⟨⟨k, code, v, h, l2⟩, c1, c2, e0, e64, e112, e48, hv⟩
  dsimp only at c1 c2 e0 e64 e112 e48 hv ⊢
  rw [diceB] at e0
  match k, c1, hv with
  | 0, c1, hv =>
    obtain ⟨g, rfl, e352⟩ : ∃ g, v = .sl 352 g 0 code.length ∧ lk h 352 = some { gen := g, kind := 2, elem := 31, size := 4, inl := true, rows := code.map Ins.cells } := by
      rcases hv with ⟨_, _, h⟩ | h
      · omega
      · exact h
    rcases Bool.eq_false_or_eq_true (decide (0 < dn l2 4)) with hq | hq
    · have s1 : code.length + 1 ≤ 100 := by omega
      repeat (first | refine N.seq ?_ | refine N.blk ?_ | refine W.seq rfl ?_ | refine W.block rfl ?_ | refine W.skip rfl ?_ | refine W.ret rfl ?_ | refine N.nil ?_ | refine N.loop ?_ | refine W.exit rfl ?_ | refine X.seq ?_ | refine X.loop ?_ | refine X.hit ?_ | refine X.pass (by decide) ?_ | refine W.condT rfl (by rfl) ?_ | refine W.condF rfl (by rfl) ?_ | refine W.region tm ok rfl (by conv => lhs; simp [e0, e64, e112, e48, e352, hq, cap32 s1, capL s1, maxLen, paths_len, paths_take]) fun _ => ?_ | refine W.regionD tm ok rfl (by conv => lhs; simp [e0, e64, e112, e48, e352, hq, cap32 s1, capL s1, maxLen, paths_len, paths_take]) (by conv => lhs; simp) (by kernel_rfl) fun _ => ?_)
      refine PrgP_mk (code ++ [⟨8, 0, 0, 0⟩]) pages (dl l2 4) ?_ ?_ (retE2_ok false (by (conv => lhs; simp [paths_len, e0, e64, e112, e48, e352]) <;> simp [codeB, pathB, Ins.cells, List.idxOf?_cons]))
      · intro i hi
        simp only [List.mem_append, List.mem_singleton] at hi
        rcases hi with hi | rfl
        · exact c2 i hi
        · decide
      · simp; omega
    · repeat (first | refine N.seq ?_ | refine N.blk ?_ | refine W.seq rfl ?_ | refine W.block rfl ?_ | refine W.skip rfl ?_ | refine W.ret rfl ?_ | refine N.nil ?_ | refine N.loop ?_ | refine W.exit rfl ?_ | refine X.seq ?_ | refine X.loop ?_ | refine X.hit ?_ | refine X.pass (by decide) ?_ | refine W.condT rfl (by rfl) ?_ | refine W.condF rfl (by rfl) ?_ | refine W.region tm ok rfl (by conv => lhs; simp [e0, e64, e112, e48, e352, hq]) fun _ => ?_ | refine W.regionD tm ok rfl (by conv => lhs; simp [e0, e64, e112, e48, e352, hq]) (by conv => lhs; simp) (by kernel_rfl) fun _ => ?_)
      refine PrgP_mk code pages (dl l2 4) ?_ ?_ (retE2_ok false (by (conv => lhs; simp [paths_len, e0, e64, e112, e48, e352]) <;> simp [codeB, pathB, List.idxOf?_cons]))
      · exact c2
      · omega
  | m + 1, c1, hv =>
    have hm : (0 : Int) < (m : Int) + 1 := by omega
    have wm : IntKind.i64.wrap (m : Int) = m := w64 (by omega) (by omega)
    have b1 := (abB l2).2
    have b2 := (abB l2).1
    rcases hv with ⟨rfl, rfl, _⟩ | ⟨g, rfl, e352⟩
    · simp only [List.length_nil, Nat.zero_add] at c1
      rcases Bool.eq_false_or_eq_true (dn (gB l2) 3 == 0) with hA | hA
      · rcases Bool.eq_false_or_eq_true (dn (dl (dl (dl (gB l2) 3) 2) 34) 8 == 0) with hB | hB
        · have s0 : (fB l2).length ≤ 100 := by omega
          have a0 := dn_nonneg (dl (gB l2) 3) 2
          have a1 := dn_lt (dl (gB l2) 3) (n := 2) (by omega)
          have at' := @get_tab tabL (dn (dl (gB l2) 3) 2)
          simp only [tabL, List.map_cons, List.map_nil] at at'
          have s1 : (fB l2).length + 1 ≤ 100 := by omega
          have s2 : (fB l2).length + 1 + 1 ≤ 100 := by omega
          repeat (first | refine N.seq ?_ | refine N.blk ?_ | refine W.seq rfl ?_ | refine W.block rfl ?_ | refine W.skip rfl ?_ | refine W.ret rfl ?_ | refine N.nil ?_ | refine N.loop ?_ | refine W.exit rfl ?_ | refine X.seq ?_ | refine X.loop ?_ | refine X.hit ?_ | refine X.pass (by decide) ?_ | refine W.condT rfl (by rfl) ?_ | refine W.condF rfl (by rfl) ?_ | refine W.region tm ok rfl (by conv => lhs; simp [e0, e64, e112, e48, hm, wm, eqB, cap32 s0, capL s0, hA, hB, take_len_map, maxLen, assoc1, a0, a1, at', cap32 s1, capL s1, cap32 s2, capL s2, eqI, Ins.cells]) fun _ => ?_ | refine W.regionD tm ok rfl (by conv => lhs; simp [e0, e64, e112, e48, hm, wm, eqB, cap32 s0, capL s0, hA, hB, take_len_map, maxLen, assoc1, a0, a1, at', cap32 s1, capL s1, cap32 s2, capL s2, eqI, Ins.cells]) (by conv => lhs; simp) (by kernel_rfl) fun _ => ?_)
          refine ⟨⟨(m, fB l2 ++ [Ins.mk (at0 [10, 11] (dn (dl (gB l2) 3) 2)) 4 7 (dn (dl (dl (gB l2) 3) 2) 34)] ++ [fI (dl (dl (dl (dl (gB l2) 3) 2) 34) 8) (((fB l2).length + 1 : Nat) : Int)], .sl 352 (((lk h 352).getD {}).gen + 1 + 1 + 1) 0 (fB l2 ++ [Ins.mk (at0 [10, 11] (dn (dl (gB l2) 3) 2)) 4 7 (dn (dl (dl (gB l2) 3) 2) 34)] ++ [fI (dl (dl (dl (dl (gB l2) 3) 2) 34) 8) (((fB l2).length + 1 : Nat) : Int)]).length, _, gI (dl (dl (dl (dl (gB l2) 3) 2) 34) 8) (((fB l2).length + 1 : Nat) : Int)), ?_⟩, by dsimp only; omega, AS.le_of rfl ⟨rfl, rfl, rfl, rfl, trivial⟩ (fun _ => rfl)⟩
          refine ⟨?_, ?_, by simp [lk_st, diceB], by simp [lk_st, Nat.add_assoc], by simp [lk_st, e112], by simp [lk_st, e48], .inr ⟨_, rfl, by simp [lk_st, Ins.cells]⟩⟩
          · simp; omega
          · intro i hi
            simp only [List.mem_append, List.mem_singleton] at hi
            rcases hi with (hi | rfl) | rfl
            · exact b2 i hi
            · have hz : (fun x : Int => x = 10 ∨ x = 11 ∨ x = 0) (at0 [10, 11] (dn (dl (gB l2) 3) 2)) := at0_all (p := fun x => x = 10 ∨ x = 11 ∨ x = 0) (L := [10, 11]) (by decide) (by decide) _
              rcases hz with hz | hz | hz <;> simp [hz, able, reg]
            · exact abI _ _
        · have s0 : (fB l2).length ≤ 100 := by omega
          have a0 := dn_nonneg (dl (gB l2) 3) 2
          have a1 := dn_lt (dl (gB l2) 3) (n := 2) (by omega)
          have at' := @get_tab tabL (dn (dl (gB l2) 3) 2)
          simp only [tabL, List.map_cons, List.map_nil] at at'
          have s1 : (fB l2).length + 1 ≤ 100 := by omega
          repeat (first | refine N.seq ?_ | refine N.blk ?_ | refine W.seq rfl ?_ | refine W.block rfl ?_ | refine W.skip rfl ?_ | refine W.ret rfl ?_ | refine N.nil ?_ | refine N.loop ?_ | refine W.exit rfl ?_ | refine X.seq ?_ | refine X.loop ?_ | refine X.hit ?_ | refine X.pass (by decide) ?_ | refine W.condT rfl (by rfl) ?_ | refine W.condF rfl (by rfl) ?_ | refine W.region tm ok rfl (by conv => lhs; simp [e0, e64, e112, e48, hm, wm, eqB, cap32 s0, capL s0, hA, hB, take_len_map, maxLen, assoc1, a0, a1, at', cap32 s1, capL s1]) fun _ => ?_ | refine W.regionD tm ok rfl (by conv => lhs; simp [e0, e64, e112, e48, hm, wm, eqB, cap32 s0, capL s0, hA, hB, take_len_map, maxLen, assoc1, a0, a1, at', cap32 s1, capL s1]) (by conv => lhs; simp) (by kernel_rfl) fun _ => ?_)
          refine ⟨⟨(m, fB l2 ++ [Ins.mk (at0 [10, 11] (dn (dl (gB l2) 3) 2)) 4 7 (dn (dl (dl (gB l2) 3) 2) 34)], .sl 352 (((lk h 352).getD {}).gen + 1 + 1) 0 (fB l2 ++ [Ins.mk (at0 [10, 11] (dn (dl (gB l2) 3) 2)) 4 7 (dn (dl (dl (gB l2) 3) 2) 34)]).length, _, dl (dl (dl (dl (gB l2) 3) 2) 34) 8), ?_⟩, by dsimp only; omega, AS.le_of rfl ⟨rfl, rfl, rfl, rfl, trivial⟩ (fun _ => rfl)⟩
          refine ⟨?_, ?_, by simp [lk_st, diceB], by simp [lk_st, Nat.add_assoc], by simp [lk_st, e112], by simp [lk_st, e48], .inr ⟨_, rfl, by simp [lk_st, Ins.cells]⟩⟩
          · simp; omega
          · intro i hi
            simp only [List.mem_append, List.mem_singleton] at hi
            rcases hi with hi | rfl
            · exact b2 i hi
            · have hz : (fun x : Int => x = 10 ∨ x = 11 ∨ x = 0) (at0 [10, 11] (dn (dl (gB l2) 3) 2)) := at0_all (p := fun x => x = 10 ∨ x = 11 ∨ x = 0) (L := [10, 11]) (by decide) (by decide) _
              rcases hz with hz | hz | hz <;> simp [hz, able, reg]
      · rcases Bool.eq_false_or_eq_true (dn (dl (gB l2) 3) 8 == 0) with hB | hB
        · have s0 : (fB l2).length ≤ 100 := by omega
          have s2 : (fB l2).length + 1 ≤ 100 := by omega
          repeat (first | refine N.seq ?_ | refine N.blk ?_ | refine W.seq rfl ?_ | refine W.block rfl ?_ | refine W.skip rfl ?_ | refine W.ret rfl ?_ | refine N.nil ?_ | refine N.loop ?_ | refine W.exit rfl ?_ | refine X.seq ?_ | refine X.loop ?_ | refine X.hit ?_ | refine X.pass (by decide) ?_ | refine W.condT rfl (by rfl) ?_ | refine W.condF rfl (by rfl) ?_ | refine W.region tm ok rfl (by conv => lhs; simp [e0, e64, e112, e48, hm, wm, eqB, cap32 s0, capL s0, hA, hB, take_len_map, maxLen, assoc1, cap32 s2, capL s2, eqI, Ins.cells]) fun _ => ?_ | refine W.regionD tm ok rfl (by conv => lhs; simp [e0, e64, e112, e48, hm, wm, eqB, cap32 s0, capL s0, hA, hB, take_len_map, maxLen, assoc1, cap32 s2, capL s2, eqI, Ins.cells]) (by conv => lhs; simp) (by kernel_rfl) fun _ => ?_)
          refine ⟨⟨(m, fB l2 ++ [fI (dl (dl (gB l2) 3) 8) (((fB l2).length : Nat) : Int)], .sl 352 (((lk h 352).getD {}).gen + 1 + 1) 0 (fB l2 ++ [fI (dl (dl (gB l2) 3) 8) (((fB l2).length : Nat) : Int)]).length, _, gI (dl (dl (gB l2) 3) 8) (((fB l2).length : Nat) : Int)), ?_⟩, by dsimp only; omega, AS.le_of rfl ⟨rfl, rfl, rfl, rfl, trivial⟩ (fun _ => rfl)⟩
          refine ⟨?_, ?_, by simp [lk_st, diceB], by simp [lk_st, Nat.add_assoc], by simp [lk_st, e112], by simp [lk_st, e48], .inr ⟨_, rfl, by simp [lk_st, Ins.cells]⟩⟩
          · simp; omega
          · intro i hi
            simp only [List.mem_append, List.mem_singleton] at hi
            rcases hi with hi | rfl
            · exact b2 i hi
            · exact abI _ _
        · have s0 : (fB l2).length ≤ 100 := by omega
          repeat (first | refine N.seq ?_ | refine N.blk ?_ | refine W.seq rfl ?_ | refine W.block rfl ?_ | refine W.skip rfl ?_ | refine W.ret rfl ?_ | refine N.nil ?_ | refine N.loop ?_ | refine W.exit rfl ?_ | refine X.seq ?_ | refine X.loop ?_ | refine X.hit ?_ | refine X.pass (by decide) ?_ | refine W.condT rfl (by rfl) ?_ | refine W.condF rfl (by rfl) ?_ | refine W.region tm ok rfl (by conv => lhs; simp [e0, e64, e112, e48, hm, wm, eqB, cap32 s0, capL s0, hA, hB, take_len_map, maxLen, assoc1]) fun _ => ?_ | refine W.regionD tm ok rfl (by conv => lhs; simp [e0, e64, e112, e48, hm, wm, eqB, cap32 s0, capL s0, hA, hB, take_len_map, maxLen, assoc1]) (by conv => lhs; simp) (by kernel_rfl) fun _ => ?_)
          refine ⟨⟨(m, fB l2, .sl 352 (((lk h 352).getD {}).gen + 1) 0 (fB l2).length, _, dl (dl (gB l2) 3) 8), ?_⟩, by dsimp only; omega, AS.le_of rfl ⟨rfl, rfl, rfl, rfl, trivial⟩ (fun _ => rfl)⟩
          refine ⟨?_, ?_, by simp [lk_st, diceB], by simp [lk_st, Nat.add_assoc], by simp [lk_st, e112], by simp [lk_st, e48], .inr ⟨_, rfl, by simp [lk_st, Ins.cells]⟩⟩
          · simp; omega
          · intro i hi
            simp only [List.mem_append, List.mem_singleton] at hi
            exact b2 i hi
    · skip
      rcases Bool.eq_false_or_eq_true (dn (gB l2) 3 == 0) with hA | hA
      · rcases Bool.eq_false_or_eq_true (dn (dl (dl (dl (gB l2) 3) 2) 34) 8 == 0) with hB | hB
        · have s0 : code.length + (fB l2).length ≤ 100 := by omega
          have a0 := dn_nonneg (dl (gB l2) 3) 2
          have a1 := dn_lt (dl (gB l2) 3) (n := 2) (by omega)
          have at' := @get_tab tabL (dn (dl (gB l2) 3) 2)
          simp only [tabL, List.map_cons, List.map_nil] at at'
          have s1 : code.length + (fB l2).length + 1 ≤ 100 := by omega
          have s2 : code.length + (fB l2).length + 1 + 1 ≤ 100 := by omega
          repeat (first | refine N.seq ?_ | refine N.blk ?_ | refine W.seq rfl ?_ | refine W.block rfl ?_ | refine W.skip rfl ?_ | refine W.ret rfl ?_ | refine N.nil ?_ | refine N.loop ?_ | refine W.exit rfl ?_ | refine X.seq ?_ | refine X.loop ?_ | refine X.hit ?_ | refine X.pass (by decide) ?_ | refine W.condT rfl (by rfl) ?_ | refine W.condF rfl (by rfl) ?_ | refine W.region tm ok rfl (by conv => lhs; simp [e0, e64, e112, e48, hm, wm, eqB, cap32 s0, capL s0, hA, hB, take_len_map, maxLen, assoc1, e352, a0, a1, at', cap32 s1, capL s1, cap32 s2, capL s2, eqI, Ins.cells]) fun _ => ?_ | refine W.regionD tm ok rfl (by conv => lhs; simp [e0, e64, e112, e48, hm, wm, eqB, cap32 s0, capL s0, hA, hB, take_len_map, maxLen, assoc1, e352, a0, a1, at', cap32 s1, capL s1, cap32 s2, capL s2, eqI, Ins.cells]) (by conv => lhs; simp) (by kernel_rfl) fun _ => ?_)
          refine ⟨⟨(m, code ++ fB l2 ++ [Ins.mk (at0 [10, 11] (dn (dl (gB l2) 3) 2)) 4 7 (dn (dl (dl (gB l2) 3) 2) 34)] ++ [fI (dl (dl (dl (dl (gB l2) 3) 2) 34) 8) ((code.length + (fB l2).length + 1 : Nat) : Int)], .sl 352 (g + 1 + 1 + 1) 0 (code ++ fB l2 ++ [Ins.mk (at0 [10, 11] (dn (dl (gB l2) 3) 2)) 4 7 (dn (dl (dl (gB l2) 3) 2) 34)] ++ [fI (dl (dl (dl (dl (gB l2) 3) 2) 34) 8) ((code.length + (fB l2).length + 1 : Nat) : Int)]).length, _, gI (dl (dl (dl (dl (gB l2) 3) 2) 34) 8) ((code.length + (fB l2).length + 1 : Nat) : Int)), ?_⟩, by dsimp only; omega, AS.le_of rfl ⟨rfl, rfl, rfl, rfl, trivial⟩ (fun _ => rfl)⟩
          refine ⟨?_, ?_, by simp [lk_st, diceB], by simp [lk_st, Nat.add_assoc], by simp [lk_st, e112], by simp [lk_st, e48], .inr ⟨_, rfl, by simp [lk_st, Ins.cells]⟩⟩
          · simp; omega
          · intro i hi
            simp only [List.mem_append, List.mem_singleton] at hi
            rcases hi with ((hi | hi) | rfl) | rfl
            · exact c2 i hi
            · exact b2 i hi
            · have hz : (fun x : Int => x = 10 ∨ x = 11 ∨ x = 0) (at0 [10, 11] (dn (dl (gB l2) 3) 2)) := at0_all (p := fun x => x = 10 ∨ x = 11 ∨ x = 0) (L := [10, 11]) (by decide) (by decide) _
              rcases hz with hz | hz | hz <;> simp [hz, able, reg]
            · exact abI _ _
        · have s0 : code.length + (fB l2).length ≤ 100 := by omega
          have a0 := dn_nonneg (dl (gB l2) 3) 2
          have a1 := dn_lt (dl (gB l2) 3) (n := 2) (by omega)
          have at' := @get_tab tabL (dn (dl (gB l2) 3) 2)
          simp only [tabL, List.map_cons, List.map_nil] at at'
          have s1 : code.length + (fB l2).length + 1 ≤ 100 := by omega
          repeat (first | refine N.seq ?_ | refine N.blk ?_ | refine W.seq rfl ?_ | refine W.block rfl ?_ | refine W.skip rfl ?_ | refine W.ret rfl ?_ | refine N.nil ?_ | refine N.loop ?_ | refine W.exit rfl ?_ | refine X.seq ?_ | refine X.loop ?_ | refine X.hit ?_ | refine X.pass (by decide) ?_ | refine W.condT rfl (by rfl) ?_ | refine W.condF rfl (by rfl) ?_ | refine W.region tm ok rfl (by conv => lhs; simp [e0, e64, e112, e48, hm, wm, eqB, cap32 s0, capL s0, hA, hB, take_len_map, maxLen, assoc1, e352, a0, a1, at', cap32 s1, capL s1]) fun _ => ?_ | refine W.regionD tm ok rfl (by conv => lhs; simp [e0, e64, e112, e48, hm, wm, eqB, cap32 s0, capL s0, hA, hB, take_len_map, maxLen, assoc1, e352, a0, a1, at', cap32 s1, capL s1]) (by conv => lhs; simp) (by kernel_rfl) fun _ => ?_)
          refine ⟨⟨(m, code ++ fB l2 ++ [Ins.mk (at0 [10, 11] (dn (dl (gB l2) 3) 2)) 4 7 (dn (dl (dl (gB l2) 3) 2) 34)], .sl 352 (g + 1 + 1) 0 (code ++ fB l2 ++ [Ins.mk (at0 [10, 11] (dn (dl (gB l2) 3) 2)) 4 7 (dn (dl (dl (gB l2) 3) 2) 34)]).length, _, dl (dl (dl (dl (gB l2) 3) 2) 34) 8), ?_⟩, by dsimp only; omega, AS.le_of rfl ⟨rfl, rfl, rfl, rfl, trivial⟩ (fun _ => rfl)⟩
          refine ⟨?_, ?_, by simp [lk_st, diceB], by simp [lk_st, Nat.add_assoc], by simp [lk_st, e112], by simp [lk_st, e48], .inr ⟨_, rfl, by simp [lk_st, Ins.cells]⟩⟩
          · simp; omega
          · intro i hi
            simp only [List.mem_append, List.mem_singleton] at hi
            rcases hi with (hi | hi) | rfl
            · exact c2 i hi
            · exact b2 i hi
            · have hz : (fun x : Int => x = 10 ∨ x = 11 ∨ x = 0) (at0 [10, 11] (dn (dl (gB l2) 3) 2)) := at0_all (p := fun x => x = 10 ∨ x = 11 ∨ x = 0) (L := [10, 11]) (by decide) (by decide) _
              rcases hz with hz | hz | hz <;> simp [hz, able, reg]
      · rcases Bool.eq_false_or_eq_true (dn (dl (gB l2) 3) 8 == 0) with hB | hB
        · have s0 : code.length + (fB l2).length ≤ 100 := by omega
          have s2 : code.length + (fB l2).length + 1 ≤ 100 := by omega
          repeat (first | refine N.seq ?_ | refine N.blk ?_ | refine W.seq rfl ?_ | refine W.block rfl ?_ | refine W.skip rfl ?_ | refine W.ret rfl ?_ | refine N.nil ?_ | refine N.loop ?_ | refine W.exit rfl ?_ | refine X.seq ?_ | refine X.loop ?_ | refine X.hit ?_ | refine X.pass (by decide) ?_ | refine W.condT rfl (by rfl) ?_ | refine W.condF rfl (by rfl) ?_ | refine W.region tm ok rfl (by conv => lhs; simp [e0, e64, e112, e48, hm, wm, eqB, cap32 s0, capL s0, hA, hB, take_len_map, maxLen, assoc1, e352, cap32 s2, capL s2, eqI, Ins.cells]) fun _ => ?_ | refine W.regionD tm ok rfl (by conv => lhs; simp [e0, e64, e112, e48, hm, wm, eqB, cap32 s0, capL s0, hA, hB, take_len_map, maxLen, assoc1, e352, cap32 s2, capL s2, eqI, Ins.cells]) (by conv => lhs; simp) (by kernel_rfl) fun _ => ?_)
          refine ⟨⟨(m, code ++ fB l2 ++ [fI (dl (dl (gB l2) 3) 8) ((code.length + (fB l2).length : Nat) : Int)], .sl 352 (g + 1 + 1) 0 (code ++ fB l2 ++ [fI (dl (dl (gB l2) 3) 8) ((code.length + (fB l2).length : Nat) : Int)]).length, _, gI (dl (dl (gB l2) 3) 8) ((code.length + (fB l2).length : Nat) : Int)), ?_⟩, by dsimp only; omega, AS.le_of rfl ⟨rfl, rfl, rfl, rfl, trivial⟩ (fun _ => rfl)⟩
          refine ⟨?_, ?_, by simp [lk_st, diceB], by simp [lk_st, Nat.add_assoc], by simp [lk_st, e112], by simp [lk_st, e48], .inr ⟨_, rfl, by simp [lk_st, Ins.cells]⟩⟩
          · simp; omega
          · intro i hi
            simp only [List.mem_append, List.mem_singleton] at hi
            rcases hi with (hi | hi) | rfl
            · exact c2 i hi
            · exact b2 i hi
            · exact abI _ _
        · have s0 : code.length + (fB l2).length ≤ 100 := by omega
          repeat (first | refine N.seq ?_ | refine N.blk ?_ | refine W.seq rfl ?_ | refine W.block rfl ?_ | refine W.skip rfl ?_ | refine W.ret rfl ?_ | refine N.nil ?_ | refine N.loop ?_ | refine W.exit rfl ?_ | refine X.seq ?_ | refine X.loop ?_ | refine X.hit ?_ | refine X.pass (by decide) ?_ | refine W.condT rfl (by rfl) ?_ | refine W.condF rfl (by rfl) ?_ | refine W.region tm ok rfl (by conv => lhs; simp [e0, e64, e112, e48, hm, wm, eqB, cap32 s0, capL s0, hA, hB, take_len_map, maxLen, assoc1, e352]) fun _ => ?_ | refine W.regionD tm ok rfl (by conv => lhs; simp [e0, e64, e112, e48, hm, wm, eqB, cap32 s0, capL s0, hA, hB, take_len_map, maxLen, assoc1, e352]) (by conv => lhs; simp) (by kernel_rfl) fun _ => ?_)
          refine ⟨⟨(m, code ++ fB l2, .sl 352 (g + 1) 0 (code ++ fB l2).length, _, dl (dl (gB l2) 3) 8), ?_⟩, by dsimp only; omega, AS.le_of rfl ⟨rfl, rfl, rfl, rfl, trivial⟩ (fun _ => rfl)⟩
          refine ⟨?_, ?_, by simp [lk_st, diceB], by simp [lk_st, Nat.add_assoc], by simp [lk_st, e112], by simp [lk_st, e48], .inr ⟨_, rfl, by simp [lk_st, Ins.cells]⟩⟩
          · simp; omega
          · intro i hi
            simp only [List.mem_append, List.mem_singleton] at hi
            rcases hi with hi | hi
            · exact c2 i hi
            · exact b2 i hi
end Go.Abs.Cp
