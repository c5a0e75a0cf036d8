/- The statement on what one step changes: the walk. Conditions: none. -/
import Derived.Test.YtldfmgiglcajcaaCpQ
namespace Go.Abs.Cp
open Go Go.Proofs Go.Abs
set_option maxRecDepth 100000
set_option maxHeartbeats 4000000
set_option linter.unusedSimpArgs false
set_option linter.unusedVariables false
theorem program_fun : ∃ (f : List UInt8 → List Ins) (g : List UInt8 → Int) (d : List UInt8 → List UInt8) (S : SpecFn), FnC Try.prog 11 S ∧ (∀ l, (∀ i ∈ f l, able i = true) ∧ (f l).length ≤ 61) ∧ ∀ l, S [.ptr 0 0 0 0] [{ gen := 0, kind := 2, elem := 56, size := 1, inl := false, rows := [[.list 1 (l.map byte)]] }] =
    some (.agg [.sl 1 0 0 (f l).length, .sl 2 0 0 8, .int .i64 (g l)], [{ gen := 0, kind := 2, elem := 56, size := 1, inl := false, rows := [[.list 1 ((d l).map byte)]] }, { gen := 0, kind := 2, elem := 31, size := 4, inl := true, rows := (f l).map Ins.cells }, { gen := 0, kind := 2, elem := 9, size := 1, inl := true, rows := pathRows }]) := by
  obtain ⟨S, hS, h⟩ := program_ok
  have h' : ∀ x : List UInt8, ∃ p : List Ins × Int × List UInt8, ((∀ i ∈ p.1, able i = true) ∧ p.1.length ≤ 61) ∧ S (encE x).1 (encE x).2 = some (.agg [.sl 1 0 0 p.1.length, .sl 2 0 0 8, .int .i64 p.2.1], [diceB p.2.2, codeB p.1, pathB]) := fun x => by
    obtain ⟨r, h1, c, pg, l, h2, h3, rfl⟩ := h x
    exact ⟨(c, pg, l), ⟨h2, h3⟩, h1⟩
  obtain ⟨f, hf⟩ := Classical.axiomOfChoice h'
  exact ⟨fun l => (f l).1, fun l => (f l).2.1, fun l => (f l).2.2, S, hS, fun l => (hf l).1, fun l => (hf l).2⟩
theorem newS_eq' (l : List UInt8) : newS [.list 1 (l.map byte)] [] = some (.ptr 0 0 0 0, [{ gen := 0, kind := 2, elem := 56, size := 1, inl := false, rows := [[.list 1 ((l.take 400).map byte)]] }]) := newS_eq l
def encCh (x : Cpu × List UInt8 × { n : Int // 0 ≤ n ∧ n ≤ 255 }) : List AV := [.agg x.1.cells, .list 1 (x.2.1.map byte), .int .u8 x.2.2.1]
noncomputable def lawCS : SpecFn := mkS encCh fun _ => (.bool true, [])
theorem pathInl : (AV.list 1 pathRows).isInl = true := rfl
theorem drop_cells (c : Cpu) {k : Nat} (h : k < 8) : (AV.int .i64 c.pc :: c.r.map (AV.int .i64)).drop (1 + k) = .int .i64 (c.get k) :: (c.r.map (AV.int .i64)).drop (k + 1) := by rw [drop_1_add, c.drop_eq h]
attribute [local simp] runL stepA execA_eq skipA run_ret run_fail run_get run_put run_asm num lk st lk_st putA AS.ev ofValue ofFlat mkv splice fieldAddrA buildA fillA runF gdst pickA unOpA extractA resVs resV pack frzT inlT inlV frzV frzVs frzL frz1 newId AV.cellsOf AV.flat AV.flat2 specOf loadA_runR renL fF handB renB AV.ren backF backL idsOf freshIds refsL refsB AV.refs List.range List.range.loop placesA sliceRows rowsOf convertA sliceArrA sliceA bndA nilCheckA arrayAtA mmA lookupA keyOf keyOK findA keyEqA foundA makeMapA mapUpdateA appendA rowsA indexA partA fieldA retE2 frqT frqV frqVs frqL frq1 reachE blkRefs outE nodupE firstE seqO expB2 expF Cpu.cells Cpu.len Cpu.take sane_run take_len_map paths_take paths_len get_1_add take_1_add
theorem lawC_ok : FnC Try.prog 4 lawCS := by
  obtain ⟨fP, gP, dP, SP, okP, abP, eqP⟩ := program_fun
  have ok : ∀ p ∈ ([(8, ⟨0, runFn Try.prog 1000 10 8⟩), (10, ⟨3, newS⟩), (11, ⟨3, SP⟩), (13, ⟨0, nextS⟩)] : NL Spec), FnC Try.prog p.1 p.2.fn := by
    simp only [List.mem_cons, List.not_mem_nil, or_false]
    rintro p (rfl | rfl | rfl | rfl)
    · exact sane_ok
    · exact new_ok
    · exact okP
    · exact next_ok
  refine FnC.walk 4 (fn := Try.f4) Try.func4 rfl (by kernel_rfl) fun x => ?_
  obtain ⟨c, l, n, hn0, hn⟩ := x
  change W _ _ _ _ ⟨70, [(0, .agg c.cells), (1, .list 1 (l.map byte)), (2, .int .u8 n)], []⟩
  have hnew := newS_eq' l
  generalize l.take 400 = m at hnew
  obtain ⟨hab, hlen⟩ := abP m
  generalize hcode : fP m = code at hab hlen
  have q0 : (0 : Int) ≤ n.tmod (code.length + 1) := Int.tmod_nonneg _ hn0
  have q1 : n.tmod (code.length + 1) < code.length + 1 := Int.tmod_lt_of_pos _ (by omega)
  generalize hpc : n.tmod (code.length + 1) = pc at q0 q1
  have w1 : IntKind.i64.wrap n = n := w64 (by omega) (by omega)
  have w2 : IntKind.i64.wrap ((code.length : Int) + 1) = code.length + 1 := w64 (by omega) (by omega)
  have z1 : ¬ (code.length : Int) + 1 = 0 := by omega
  obtain ⟨L1, L2, L3⟩ := next_law ⟨pc, c.r, c.h⟩ code q0 (by dsimp only; omega) hab
  have hN := nextS_eq ⟨pc, c.r, c.h⟩ ⟨code, .list 1 pathRows, rfl, rfl, gP m⟩
  obtain ⟨a0, a1, a2, a3, a4, a5, a6, a7, ha⟩ := eight _ (next_len ⟨pc, c.r, c.h⟩ code)
  simp only [Res.av, Cpu.cells, Prg.cells, ha, List.map_cons, List.map_nil] at hN
  rw [ha] at L2 L3
  simp only [List.getD_eq_getElem?_getD, List.getElem?_cons_zero, Option.getD_some] at L2 L3
  have hc0 : (⟨pc, c.r, c.h⟩ : Cpu).r = c.r := rfl
  generalize hd : (next ⟨pc, c.r, c.h⟩ code).1 = d at hN L1 L2
  repeat (first | refine N.seq ?_ | refine N.blk ?_ | refine W.seq rfl ?_ | refine W.block rfl ?_ | refine W.skip rfl ?_ | refine W.ret rfl ?_ | refine N.nil ?_ | refine N.loop ?_ | refine W.exit rfl ?_ | refine X.seq ?_ | refine X.loop ?_ | refine X.hit ?_ | refine X.pass (by decide) ?_ | refine W.condT rfl (by rfl) ?_ | refine W.condF rfl (by rfl) ?_ | refine W.region tm ok rfl (by conv => lhs; simp [hnew, w1, w2, z1, hcode, hpc, eqP, hN, maxLen, pathInl]) fun _ => ?_ | refine W.regionD tm ok rfl (by conv => lhs; simp [hnew, w1, w2, z1, hcode, hpc, eqP, hN, maxLen, pathInl]) (by conv => lhs; simp) (by kernel_rfl) fun _ => ?_)
  refine W.loop rfl (ι := { q : Nat × NL ABlk // q.1 ≤ 8 ∧ lk q.2 64 = some { gen := 1, kind := 2, elem := 24, size := 9, inl := false, rows := [.int .i64 pc :: c.r.map (.int .i64)] } ∧
      lk q.2 128 = some { gen := 1, kind := 2, elem := 28, size := 3, inl := false, rows := [[.sl 272 1 0 code.length, .sl 273 1 0 8, .int .i64 (gP m)]] } ∧
      lk q.2 144 = some { gen := 1, kind := 2, elem := 24, size := 9, inl := false, rows := [.int .i64 d.pc :: d.r.map (.int .i64)] } ∧
      lk q.2 160 = some { gen := 1, kind := 2, elem := 42, size := 8, inl := false, rows := [[.int .i64 a0, .int .i64 a1, .int .i64 a2, .int .i64 a3, .int .i64 a4, .int .i64 a5, .int .i64 a6, .int .i64 a7]] } ∧
      lk q.2 272 = some { gen := 1, kind := 2, elem := 31, size := 4, inl := true, rows := code.map Ins.cells } })
    (fun q => ⟨70, [(3, .ptr 64 1 0 0), (7, .ptr 128 1 0 0), (8, .ptr 144 1 0 0), (9, .ptr 160 1 0 0), (10, .int .i64 (diff ⟨pc, c.r, c.h⟩ d q.1.1)), (31, .int .i64 q.1.1)], q.1.2⟩) (fun q => 8 - q.1.1)
    ⟨(0, _), by simp, by rfl, by rfl, by rfl, by rfl, by rfl⟩ (AS.le_of rfl ⟨rfl, rfl, rfl, rfl, rfl, rfl, trivial⟩ (fun _ => rfl)) ?_
  clear eqP hnew hN
  rintro ⟨⟨k, h⟩, hk, e64, e128, e144, e160, e272⟩
  dsimp only at hk e64 e128 e144 e160 e272 ⊢
  have hgk : (⟨pc, c.r, c.h⟩ : Cpu).get k = c.get k := rfl
  have hdk : diff ⟨pc, c.r, c.h⟩ d (k + 1) = diff ⟨pc, c.r, c.h⟩ d k + (if d.get k = c.get k then 0 else 1) := rfl
  have hd8 : ∀ n, diff ⟨pc, c.r, c.h⟩ d n ≤ n := fun n => by
    induction n with
    | zero => simp [diff]
    | succ n ih => simp only [diff]; split <;> omega
  have hdk2 := hd8 k
  by_cases hk8 : k = 8
  · subst hk8
    generalize hD : diff ⟨pc, c.r, c.h⟩ d 8 = D at L1
    have hD1 : (D : Int) ≤ 1 := by omega
    have c8 : ((8 : Nat) : Int) = 8 := rfl
    rcases L2 with rfl | rfl
    · have hL : (pc == (code.length : Int)) = false := by rw [← L3]; rfl
      repeat (first | refine N.seq ?_ | refine N.blk ?_ | refine W.seq rfl ?_ | refine W.block rfl ?_ | refine W.skip rfl ?_ | refine W.ret rfl ?_ | refine N.nil ?_ | refine N.loop ?_ | refine W.exit rfl ?_ | refine X.seq ?_ | refine X.loop ?_ | refine X.hit ?_ | refine X.pass (by decide) ?_ | refine W.condT rfl (by rfl) ?_ | refine W.condF rfl (by rfl) ?_ | refine W.region tm ok rfl (by conv => lhs; simp [e64, e128, e144, e160, e272, hD1, hL, eqlA, tu4, tg24, c8]) fun _ => ?_ | refine W.regionD tm ok rfl (by conv => lhs; simp [e64, e128, e144, e160, e272, hD1, hL, eqlA, tu4, tg24, c8]) (by conv => lhs; simp) (by kernel_rfl) fun _ => ?_)
      first | exact Ret.dataR rfl (by conv => lhs; simp) (by conv => lhs; simp) (by first | rfl | simp [inlT, inlV]) | fail "no return here"
    · have he := eq24r ⟨pc, c.r, c.h⟩
      dsimp only at he e144
      rcases Bool.eq_false_or_eq_true (a0 == 0) with h0 | h0
      · repeat (first | refine N.seq ?_ | refine N.blk ?_ | refine W.seq rfl ?_ | refine W.block rfl ?_ | refine W.skip rfl ?_ | refine W.ret rfl ?_ | refine N.nil ?_ | refine N.loop ?_ | refine W.exit rfl ?_ | refine X.seq ?_ | refine X.loop ?_ | refine X.hit ?_ | refine X.pass (by decide) ?_ | refine W.condT rfl (by rfl) ?_ | refine W.condF rfl (by rfl) ?_ | refine W.region tm ok rfl (by conv => lhs; simp [e64, e128, e144, e160, e272, hD1, h0, L3, eqlA, tu4, tg24, he, c8]) fun _ => ?_ | refine W.regionD tm ok rfl (by conv => lhs; simp [e64, e128, e144, e160, e272, hD1, h0, L3, eqlA, tu4, tg24, he, c8]) (by conv => lhs; simp) (by kernel_rfl) fun _ => ?_)
        first | exact Ret.dataR rfl (by conv => lhs; simp) (by conv => lhs; simp) (by first | rfl | simp [inlT, inlV]) | fail "no return here"
      · repeat (first | refine N.seq ?_ | refine N.blk ?_ | refine W.seq rfl ?_ | refine W.block rfl ?_ | refine W.skip rfl ?_ | refine W.ret rfl ?_ | refine N.nil ?_ | refine N.loop ?_ | refine W.exit rfl ?_ | refine X.seq ?_ | refine X.loop ?_ | refine X.hit ?_ | refine X.pass (by decide) ?_ | refine W.condT rfl (by rfl) ?_ | refine W.condF rfl (by rfl) ?_ | refine W.region tm ok rfl (by conv => lhs; simp [e64, e128, e144, e160, e272, hD1, h0, L3, eqlA, tu4, tg24, he, c8]) fun _ => ?_ | refine W.regionD tm ok rfl (by conv => lhs; simp [e64, e128, e144, e160, e272, hD1, h0, L3, eqlA, tu4, tg24, he, c8]) (by conv => lhs; simp) (by kernel_rfl) fun _ => ?_)
        first | exact Ret.dataR rfl (by conv => lhs; simp) (by conv => lhs; simp) (by first | rfl | simp [inlT, inlV]) | fail "no return here"
  · have hk' : k < 8 := by omega
    have q2 : (k : Int) < 8 := by omega
    have gd := drop_cells d hk'
    have gc := c.drop_eq hk'
    have wk : IntKind.i64.wrap ((k : Int) + 1) = ((k + 1 : Nat) : Int) := by rw [w64] <;> omega
    have wd : IntKind.i64.wrap ((diff ⟨pc, c.r, c.h⟩ d k : Int) + 1) = ((diff ⟨pc, c.r, c.h⟩ d k + 1 : Nat) : Int) := by rw [w64] <;> omega
    by_cases he : d.get k = c.get k
    · rw [if_pos he] at hdk
      repeat (first | refine N.seq ?_ | refine N.blk ?_ | refine W.seq rfl ?_ | refine W.block rfl ?_ | refine W.skip rfl ?_ | refine W.ret rfl ?_ | refine N.nil ?_ | refine N.loop ?_ | refine W.exit rfl ?_ | refine X.seq ?_ | refine X.loop ?_ | refine X.hit ?_ | refine X.pass (by decide) ?_ | refine W.condT rfl (by rfl) ?_ | refine W.condF rfl (by rfl) ?_ | refine W.region tm ok rfl (by conv => lhs; simp [e64, e128, e144, e160, e272, q2, drop_1_add, d.drop_eq hk', gc, he, wk]) fun _ => ?_ | refine W.regionD tm ok rfl (by conv => lhs; simp [e64, e128, e144, e160, e272, q2, drop_1_add, d.drop_eq hk', gc, he, wk]) (by conv => lhs; simp) (by kernel_rfl) fun _ => ?_)
      refine ⟨⟨(k + 1, h), by dsimp only; omega, e64, e128, e144, e160, e272⟩, by dsimp only; omega, AS.le_of rfl (by simp [tmpsIn, hdk]) (fun _ => rfl)⟩
    · rw [if_neg he] at hdk
      have hne : (d.get k != c.get k) = true := by simpa using he
      repeat (first | refine N.seq ?_ | refine N.blk ?_ | refine W.seq rfl ?_ | refine W.block rfl ?_ | refine W.skip rfl ?_ | refine W.ret rfl ?_ | refine N.nil ?_ | refine N.loop ?_ | refine W.exit rfl ?_ | refine X.seq ?_ | refine X.loop ?_ | refine X.hit ?_ | refine X.pass (by decide) ?_ | refine W.condT rfl (by rfl) ?_ | refine W.condF rfl (by rfl) ?_ | refine W.region tm ok rfl (by conv => lhs; simp [e64, e128, e144, e160, e272, q2, drop_1_add, d.drop_eq hk', gc, hne, wk, wd]) fun _ => ?_ | refine W.regionD tm ok rfl (by conv => lhs; simp [e64, e128, e144, e160, e272, q2, drop_1_add, d.drop_eq hk', gc, hne, wk, wd]) (by conv => lhs; simp) (by kernel_rfl) fun _ => ?_)
      refine ⟨⟨(k + 1, h), by dsimp only; omega, e64, e128, e144, e160, e272⟩, by dsimp only; omega, AS.le_of rfl (by simp [tmpsIn, hdk]) (fun _ => rfl)⟩
end Go.Abs.Cp
