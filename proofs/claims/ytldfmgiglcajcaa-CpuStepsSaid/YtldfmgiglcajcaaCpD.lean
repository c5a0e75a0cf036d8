/- Which registers an instruction names, and whether it can be carried out. Conditions: none. -/
import Derived.Test.YtldfmgiglcajcaaCpB
namespace Go.Abs.Cp
open Go Go.Proofs Go.Abs
set_option maxRecDepth 100000
set_option maxHeartbeats 4000000
set_option linter.unusedSimpArgs false
set_option linter.unusedVariables false
theorem tu60 : Try.prog.underlying 60 = some (.slice 3) := by kernel_rfl
theorem ts60 : szOf Try.prog 60 = some 1 := by kernel_rfl
theorem ta60 : aggT Try.prog 60 = some false := by kernel_rfl
structure Ins where
  op : Int
  a : Int
  b : Int
  c : Int
def Ins.cells (x : Ins) : List AV := [.int .i64 x.op, .int .i64 x.a, .int .i64 x.b, .int .i64 x.c]
theorem Ins.inj (a b : Ins) (h : a.cells = b.cells) : a = b := by
  cases a; cases b
  simp only [Ins.cells, List.cons.injEq, AV.int.injEq, true_and, and_true] at h
  obtain ⟨rfl, rfl, rfl, rfl⟩ := h
  rfl
def encI (x : Ins) : List AV := [.agg x.cells]
theorem encI_inj {β : Type} {f : Ins → β} : ∀ x y, encI x = encI y → f x = f y := fun x y h => by
  simp only [encI, List.cons.injEq, AV.agg.injEq, and_true] at h
  rw [Ins.inj _ _ h]
def regs (x : Ins) : AV × Bool :=
  if x.op = 0 ∨ x.op = 8 ∨ x.op = 12 then (.nils, true)
  else if x.op = 1 ∨ x.op = 9 then (.list 1 [[.int .i64 x.a]], true)
  else if x.op = 2 ∨ x.op = 10 ∨ x.op = 11 then (.list 1 [[.int .i64 x.a], [.int .i64 x.b]], true)
  else if x.op = 3 ∨ x.op = 4 ∨ x.op = 5 ∨ x.op = 6 ∨ x.op = 7 then (.list 1 [[.int .i64 x.a], [.int .i64 x.b], [.int .i64 x.c]], true)
  else (.nils, false)
noncomputable def regsS : SpecFn := mkS encI fun x => (.tup [(regs x).1, .bool (regs x).2], [])
theorem regsS_eq (x : Ins) : regsS [.agg x.cells] [] = some (.tup [(regs x).1, .bool (regs x).2], []) := mkS_eq encI_inj x
theorem tz3 : zeroA Try.prog 3 = some (.int .i64 0) := by kernel_rfl
attribute [local simp] runL stepA execA_eq skipA run_ret run_fail run_get run_put run_asm num lk st lk_st putA AS.ev ofValue ofFlat mkv splice fieldAddrA buildA fillA runF gdst pickA unOpA extractA resVs resV pack frzT inlT inlV frzV frzVs frzL frz1 newId AV.cellsOf AV.flat AV.flat2 specOf loadA_runR renL fF handB renB AV.ren backF backL idsOf freshIds refsL refsB AV.refs List.range List.range.loop placesA sliceRows rowsOf convertA sliceArrA sliceA bndA nilCheckA arrayAtA mmA lookupA keyOf keyOK findA keyEqA foundA makeMapA mapUpdateA appendA rowsA indexA partA fieldA retE2 frqT frqV frqVs frqL frq1 reachE blkRefs outE nodupE firstE seqO expB2 expF tz3 tz31 ts31 ta31 ts3 ta3 ts60 ta60 tu60 Ins.cells inlT inlV buildSliceA sliceRows rowsOf frzP maxLen
theorem registers_ok : FnC Try.prog 34 regsS := by
  refine FnC.walk 34 (fn := Try.f34) Try.func34 rfl (by kernel_rfl) fun x => ?_
  obtain ⟨o, a, b, c⟩ := x
  change W _ _ _ _ ⟨38, [(0, .agg (Ins.cells ⟨o, a, b, c⟩))], []⟩
  unfold regs
  dsimp only
  by_cases h0 : o = 0 ∨ o = 8 ∨ o = 12
  · rw [if_pos h0]
    rcases h0 with rfl | rfl | rfl
    all_goals
      repeat (first | refine N.seq ?_ | refine N.blk ?_ | refine W.seq rfl ?_ | refine W.block rfl ?_ | refine W.skip rfl ?_ | refine W.ret rfl ?_ | refine N.nil ?_ | refine N.loop ?_ | refine W.exit rfl ?_ | refine X.seq ?_ | refine X.loop ?_ | refine X.hit ?_ | refine X.pass (by decide) ?_ | refine W.condT rfl (by rfl) ?_ | refine W.condF rfl (by rfl) ?_ | refine W.region tm no_specs rfl (by conv => lhs; simp) fun _ => ?_ | refine W.regionD tm no_specs rfl (by conv => lhs; simp) (by conv => lhs; simp) (by kernel_rfl) fun _ => ?_)
      first | exact Ret.dataR rfl (by conv => lhs; simp) (by conv => lhs; simp) (by first | rfl | simp [inlT, inlV]) | fail "no return here"
  rw [if_neg h0]
  by_cases h1 : o = 1 ∨ o = 9
  · rw [if_pos h1]
    rcases h1 with rfl | rfl
    all_goals
      repeat (first | refine N.seq ?_ | refine N.blk ?_ | refine W.seq rfl ?_ | refine W.block rfl ?_ | refine W.skip rfl ?_ | refine W.ret rfl ?_ | refine N.nil ?_ | refine N.loop ?_ | refine W.exit rfl ?_ | refine X.seq ?_ | refine X.loop ?_ | refine X.hit ?_ | refine X.pass (by decide) ?_ | refine W.condT rfl (by rfl) ?_ | refine W.condF rfl (by rfl) ?_ | refine W.region tm no_specs rfl (by conv => lhs; simp) fun _ => ?_ | refine W.regionD tm no_specs rfl (by conv => lhs; simp) (by conv => lhs; simp) (by kernel_rfl) fun _ => ?_)
      first | exact Ret.dataR rfl (by conv => lhs; simp) (by conv => lhs; simp) (by first | rfl | simp [inlT, inlV]) | fail "no return here"
  rw [if_neg h1]
  by_cases h2 : o = 2 ∨ o = 10 ∨ o = 11
  · rw [if_pos h2]
    rcases h2 with rfl | rfl | rfl
    all_goals
      repeat (first | refine N.seq ?_ | refine N.blk ?_ | refine W.seq rfl ?_ | refine W.block rfl ?_ | refine W.skip rfl ?_ | refine W.ret rfl ?_ | refine N.nil ?_ | refine N.loop ?_ | refine W.exit rfl ?_ | refine X.seq ?_ | refine X.loop ?_ | refine X.hit ?_ | refine X.pass (by decide) ?_ | refine W.condT rfl (by rfl) ?_ | refine W.condF rfl (by rfl) ?_ | refine W.region tm no_specs rfl (by conv => lhs; simp) fun _ => ?_ | refine W.regionD tm no_specs rfl (by conv => lhs; simp) (by conv => lhs; simp) (by kernel_rfl) fun _ => ?_)
      first | exact Ret.dataR rfl (by conv => lhs; simp) (by conv => lhs; simp) (by first | rfl | simp [inlT, inlV]) | fail "no return here"
  rw [if_neg h2]
  by_cases h3 : o = 3 ∨ o = 4 ∨ o = 5 ∨ o = 6 ∨ o = 7
  · rw [if_pos h3]
    rcases h3 with rfl | rfl | rfl | rfl | rfl
    all_goals
      repeat (first | refine N.seq ?_ | refine N.blk ?_ | refine W.seq rfl ?_ | refine W.block rfl ?_ | refine W.skip rfl ?_ | refine W.ret rfl ?_ | refine N.nil ?_ | refine N.loop ?_ | refine W.exit rfl ?_ | refine X.seq ?_ | refine X.loop ?_ | refine X.hit ?_ | refine X.pass (by decide) ?_ | refine W.condT rfl (by rfl) ?_ | refine W.condF rfl (by rfl) ?_ | refine W.region tm no_specs rfl (by conv => lhs; simp) fun _ => ?_ | refine W.regionD tm no_specs rfl (by conv => lhs; simp) (by conv => lhs; simp) (by kernel_rfl) fun _ => ?_)
      first | exact Ret.dataR rfl (by conv => lhs; simp) (by conv => lhs; simp) (by first | rfl | simp [inlT, inlV]) | fail "no return here"
  rw [if_neg h3]
  simp only [not_or] at h0 h1 h2 h3
  obtain ⟨h00, h01, h02⟩ := h0
  obtain ⟨h10, h11⟩ := h1
  obtain ⟨h20, h21, h22⟩ := h2
  obtain ⟨h30, h31, h32, h33, h34⟩ := h3
  repeat (first | refine N.seq ?_ | refine N.blk ?_ | refine W.seq rfl ?_ | refine W.block rfl ?_ | refine W.skip rfl ?_ | refine W.ret rfl ?_ | refine N.nil ?_ | refine N.loop ?_ | refine W.exit rfl ?_ | refine X.seq ?_ | refine X.loop ?_ | refine X.hit ?_ | refine X.pass (by decide) ?_ | refine W.condT rfl (by rfl) ?_ | refine W.condF rfl (by rfl) ?_ | refine W.region tm no_specs rfl (by conv => lhs; simp [beq_false_of_ne h00, beq_false_of_ne h01, beq_false_of_ne h02, beq_false_of_ne h10, beq_false_of_ne h11, beq_false_of_ne h20, beq_false_of_ne h21, beq_false_of_ne h22, beq_false_of_ne h30, beq_false_of_ne h31, beq_false_of_ne h32, beq_false_of_ne h33, beq_false_of_ne h34]) fun _ => ?_ | refine W.regionD tm no_specs rfl (by conv => lhs; simp [beq_false_of_ne h00, beq_false_of_ne h01, beq_false_of_ne h02, beq_false_of_ne h10, beq_false_of_ne h11, beq_false_of_ne h20, beq_false_of_ne h21, beq_false_of_ne h22, beq_false_of_ne h30, beq_false_of_ne h31, beq_false_of_ne h32, beq_false_of_ne h33, beq_false_of_ne h34]) (by conv => lhs; simp) (by kernel_rfl) fun _ => ?_)
  first | exact Ret.dataR rfl (by conv => lhs; simp) (by conv => lhs; simp) (by first | rfl | simp [inlT, inlV]) | fail "no return here"
/-! ### possible -/
def able (x : Ins) : Bool :=
  if x.op = 0 ∨ x.op = 8 ∨ x.op = 12 then true
  else if x.op = 1 ∨ x.op = 9 then reg x.a
  else if x.op = 2 ∨ x.op = 10 ∨ x.op = 11 then reg x.a && reg x.b
  else if x.op = 3 ∨ x.op = 4 ∨ x.op = 5 ∨ x.op = 6 ∨ x.op = 7 then reg x.a && reg x.b && reg x.c
  else false
theorem able_eq (x : Ins) : ∃ l : List Int, ((regs x).1 = .list 1 (l.map fun n => [.int .i64 n]) ∨ (regs x).1 = .nils ∧ l = []) ∧ able x = ((regs x).2 && l.all reg) := by
  unfold able regs
  split
  · exact ⟨[], .inr ⟨rfl, rfl⟩, rfl⟩
  · split
    · exact ⟨[x.a], .inl rfl, by simp⟩
    · split
      · exact ⟨[x.a, x.b], .inl rfl, by simp⟩
      · split
        · exact ⟨[x.a, x.b, x.c], .inl rfl, by simp [Bool.and_assoc]⟩
        · exact ⟨[], .inr ⟨rfl, rfl⟩, rfl⟩
noncomputable def ableS : SpecFn := mkS encI fun x => (.bool (able x), [])
theorem ableS_eq (x : Ins) : ableS [.agg x.cells] [] = some (.bool (able x), []) := mkS_eq encI_inj x
noncomputable def rg_specs : NL Spec := [(34, ⟨1, regsS⟩)]
theorem rg_specs_ok : ∀ p ∈ rg_specs, FnC Try.prog p.1 p.2.fn := by
  simp only [rg_specs, List.mem_cons, List.not_mem_nil, or_false]
  rintro p rfl
  exact registers_ok
theorem regsS_eq' (x : Ins) : regsS [.agg [.int .i64 x.op, .int .i64 x.a, .int .i64 x.b, .int .i64 x.c]] [] = some (.tup [(regs x).1, .bool (regs x).2], []) := regsS_eq x
attribute [local simp] rg_specs regsS_eq' instA AV.ren renL newF
theorem possible_ok : FnC Try.prog 29 ableS := by
  refine FnC.walk 29 (fn := Try.f29) Try.func29 rfl (by kernel_rfl) fun x => ?_
  change W _ _ _ _ ⟨29, [(0, .agg x.cells)], []⟩
  obtain ⟨l, hl, ha⟩ := able_eq x
  have hsucc : ∀ i : Nat, ∀ n : Int, l[i]? = some n → (l.take (i + 1)).all reg = ((l.take i).all reg && reg n) := by
    intro i n h
    rw [List.take_add_one, h]
    simp
  rcases hl with h | ⟨h, h0⟩
  all_goals
    repeat (first | refine N.seq ?_ | refine N.blk ?_ | refine W.seq rfl ?_ | refine W.block rfl ?_ | refine W.skip rfl ?_ | refine W.ret rfl ?_ | refine N.nil ?_ | refine N.loop ?_ | refine W.exit rfl ?_ | refine X.seq ?_ | refine X.loop ?_ | refine X.hit ?_ | refine X.pass (by decide) ?_)
    refine W.region tm rg_specs_ok rfl (by conv => lhs; simp [h]) fun _ => ?_
    repeat (first | refine N.seq ?_ | refine N.blk ?_ | refine W.seq rfl ?_ | refine W.block rfl ?_ | refine W.skip rfl ?_ | refine W.ret rfl ?_ | refine N.nil ?_ | refine N.loop ?_ | refine W.exit rfl ?_ | refine X.seq ?_ | refine X.loop ?_ | refine X.hit ?_ | refine X.pass (by decide) ?_)
    refine W.region tm rg_specs_ok rfl (by conv => lhs; simp [h]) fun _ => ?_
    repeat (first | refine N.seq ?_ | refine N.blk ?_ | refine W.seq rfl ?_ | refine W.block rfl ?_ | refine W.skip rfl ?_ | refine W.ret rfl ?_ | refine N.nil ?_ | refine N.loop ?_ | refine W.exit rfl ?_ | refine X.seq ?_ | refine X.loop ?_ | refine X.hit ?_ | refine X.pass (by decide) ?_)
    refine W.region tm rg_specs_ok rfl (by conv => lhs; simp [h]) fun hlen => ?_
    repeat (first | refine N.seq ?_ | refine N.blk ?_ | refine W.seq rfl ?_ | refine W.block rfl ?_ | refine W.skip rfl ?_ | refine W.ret rfl ?_ | refine N.nil ?_ | refine N.loop ?_ | refine W.exit rfl ?_ | refine X.seq ?_ | refine X.loop ?_ | refine X.hit ?_ | refine X.pass (by decide) ?_)
    refine W.loop rfl (ι := { p : Nat // p ≤ l.length }) (fun p => ⟨29, [(4, .bool ((regs x).2 && (l.take p.1).all reg)), (12, .list 1 (l.map (fun n => [.int .i64 n]))), (13, .int .i64 l.length), (14, .int .i64 p.1)], _⟩) (fun p => l.length - p.1) ⟨0, by omega⟩ (AS.le_of' rfl ?le (fun _ => rfl)) ?_
    case le =>
      first
        | simp [tmpsLe, AV.weaker_refl]; done
        | simp [tmpsLe, AV.weaker_refl, AV.weaker_nils, h0]
    rintro ⟨i, hi⟩
    dsimp only
    generalize hacc : ((regs x).2 && (l.take i).all reg) = acc
    have hlen : l.length ≤ maxLen := by
      first
        | (simp only [maxLen]; exact hlen)
        | (rw [h0]; simp)
    repeat (first | refine N.seq ?_ | refine N.blk ?_ | refine W.seq rfl ?_ | refine W.block rfl ?_ | refine W.skip rfl ?_ | refine W.ret rfl ?_ | refine N.nil ?_ | refine N.loop ?_ | refine W.exit rfl ?_ | refine X.seq ?_ | refine X.loop ?_ | refine X.hit ?_ | refine X.pass (by decide) ?_ | refine W.condT rfl (by rfl) ?_ | refine W.condF rfl (by rfl) ?_ | refine W.region tm rg_specs_ok rfl (by conv => lhs; simp) fun _ => ?_ | refine W.regionD tm rg_specs_ok rfl (by conv => lhs; simp) (by conv => lhs; simp) (by kernel_rfl) fun _ => ?_)
    refine W.cond rfl (by rfl) (fun hb => ?_) (fun hb => ?_)
    · simp only [decide_eq_true_eq] at hb
      have hi' : i < l.length := by omega
      obtain ⟨n, hn⟩ := get_lt hi'
      repeat (first | refine N.seq ?_ | refine N.blk ?_ | refine W.seq rfl ?_ | refine W.block rfl ?_ | refine W.skip rfl ?_ | refine W.ret rfl ?_ | refine N.nil ?_ | refine N.loop ?_ | refine W.exit rfl ?_ | refine X.seq ?_ | refine X.loop ?_ | refine X.hit ?_ | refine X.pass (by decide) ?_)
      refine W.region tm rg_specs_ok rfl (by conv => lhs; simp [hn]) fun _ => ?_
      rcases reg_cases n with ⟨k, rfl, hk, hr⟩ | ⟨h1, hr⟩ | ⟨h1, h2, hr⟩
      all_goals
        have hacc' := hsucc i _ hn
        rw [hr] at hacc'
        have hacc2 : ∀ b, (l.take (i + 1)).all reg = ((l.take i).all reg && b) → ((regs x).2 && (l.take (i + 1)).all reg) = (acc && b) := fun b h => by rw [h, ← Bool.and_assoc, hacc]
        replace hacc2 := hacc2 _ hacc'
        clear hacc hacc'
        cases acc
      · repeat (first | refine N.seq ?_ | refine N.blk ?_ | refine W.seq rfl ?_ | refine W.block rfl ?_ | refine W.skip rfl ?_ | refine W.ret rfl ?_ | refine N.nil ?_ | refine N.loop ?_ | refine W.exit rfl ?_ | refine X.seq ?_ | refine X.loop ?_ | refine X.hit ?_ | refine X.pass (by decide) ?_ | refine W.condT rfl (by rfl) ?_ | refine W.condF rfl (by rfl) ?_ | refine W.region tm rg_specs_ok rfl (by conv => lhs; simp [hn, w64_succ hi' hlen]) fun _ => ?_ | refine W.regionD tm rg_specs_ok rfl (by conv => lhs; simp [hn, w64_succ hi' hlen]) (by conv => lhs; simp) (by kernel_rfl) fun _ => ?_)
        exact ⟨⟨i + 1, hi'⟩, by dsimp only; omega, AS.le_of rfl (by simp [tmpsIn, hacc2]) (fun _ => rfl)⟩
      · have h8 : (k : Int) < 8 := by omega
        repeat (first | refine N.seq ?_ | refine N.blk ?_ | refine W.seq rfl ?_ | refine W.block rfl ?_ | refine W.skip rfl ?_ | refine W.ret rfl ?_ | refine N.nil ?_ | refine N.loop ?_ | refine W.exit rfl ?_ | refine X.seq ?_ | refine X.loop ?_ | refine X.hit ?_ | refine X.pass (by decide) ?_ | refine W.condT rfl (by rfl) ?_ | refine W.condF rfl (by rfl) ?_ | refine W.region tm rg_specs_ok rfl (by conv => lhs; simp [hn, w64_succ hi' hlen, h8]) fun _ => ?_ | refine W.regionD tm rg_specs_ok rfl (by conv => lhs; simp [hn, w64_succ hi' hlen, h8]) (by conv => lhs; simp) (by kernel_rfl) fun _ => ?_)
        exact ⟨⟨i + 1, hi'⟩, by dsimp only; omega, AS.le_of rfl (by simp [tmpsIn, hacc2]) (fun _ => rfl)⟩
      · repeat (first | refine N.seq ?_ | refine N.blk ?_ | refine W.seq rfl ?_ | refine W.block rfl ?_ | refine W.skip rfl ?_ | refine W.ret rfl ?_ | refine N.nil ?_ | refine N.loop ?_ | refine W.exit rfl ?_ | refine X.seq ?_ | refine X.loop ?_ | refine X.hit ?_ | refine X.pass (by decide) ?_ | refine W.condT rfl (by rfl) ?_ | refine W.condF rfl (by rfl) ?_ | refine W.region tm rg_specs_ok rfl (by conv => lhs; simp [hn, w64_succ hi' hlen]) fun _ => ?_ | refine W.regionD tm rg_specs_ok rfl (by conv => lhs; simp [hn, w64_succ hi' hlen]) (by conv => lhs; simp) (by kernel_rfl) fun _ => ?_)
        exact ⟨⟨i + 1, hi'⟩, by dsimp only; omega, AS.le_of rfl (by simp [tmpsIn, hacc2]) (fun _ => rfl)⟩
      · repeat (first | refine N.seq ?_ | refine N.blk ?_ | refine W.seq rfl ?_ | refine W.block rfl ?_ | refine W.skip rfl ?_ | refine W.ret rfl ?_ | refine N.nil ?_ | refine N.loop ?_ | refine W.exit rfl ?_ | refine X.seq ?_ | refine X.loop ?_ | refine X.hit ?_ | refine X.pass (by decide) ?_ | refine W.condT rfl (by rfl) ?_ | refine W.condF rfl (by rfl) ?_ | refine W.region tm rg_specs_ok rfl (by conv => lhs; simp [hn, w64_succ hi' hlen, h1]) fun _ => ?_ | refine W.regionD tm rg_specs_ok rfl (by conv => lhs; simp [hn, w64_succ hi' hlen, h1]) (by conv => lhs; simp) (by kernel_rfl) fun _ => ?_)
        exact ⟨⟨i + 1, hi'⟩, by dsimp only; omega, AS.le_of rfl (by simp [tmpsIn, hacc2]) (fun _ => rfl)⟩
      · repeat (first | refine N.seq ?_ | refine N.blk ?_ | refine W.seq rfl ?_ | refine W.block rfl ?_ | refine W.skip rfl ?_ | refine W.ret rfl ?_ | refine N.nil ?_ | refine N.loop ?_ | refine W.exit rfl ?_ | refine X.seq ?_ | refine X.loop ?_ | refine X.hit ?_ | refine X.pass (by decide) ?_ | refine W.condT rfl (by rfl) ?_ | refine W.condF rfl (by rfl) ?_ | refine W.region tm rg_specs_ok rfl (by conv => lhs; simp [hn, w64_succ hi' hlen]) fun _ => ?_ | refine W.regionD tm rg_specs_ok rfl (by conv => lhs; simp [hn, w64_succ hi' hlen]) (by conv => lhs; simp) (by kernel_rfl) fun _ => ?_)
        exact ⟨⟨i + 1, hi'⟩, by dsimp only; omega, AS.le_of rfl (by simp [tmpsIn, hacc2]) (fun _ => rfl)⟩
      · repeat (first | refine N.seq ?_ | refine N.blk ?_ | refine W.seq rfl ?_ | refine W.block rfl ?_ | refine W.skip rfl ?_ | refine W.ret rfl ?_ | refine N.nil ?_ | refine N.loop ?_ | refine W.exit rfl ?_ | refine X.seq ?_ | refine X.loop ?_ | refine X.hit ?_ | refine X.pass (by decide) ?_ | refine W.condT rfl (by rfl) ?_ | refine W.condF rfl (by rfl) ?_ | refine W.region tm rg_specs_ok rfl (by conv => lhs; simp [hn, w64_succ hi' hlen, h1, h2]) fun _ => ?_ | refine W.regionD tm rg_specs_ok rfl (by conv => lhs; simp [hn, w64_succ hi' hlen, h1, h2]) (by conv => lhs; simp) (by kernel_rfl) fun _ => ?_)
        exact ⟨⟨i + 1, hi'⟩, by dsimp only; omega, AS.le_of rfl (by simp [tmpsIn, hacc2]) (fun _ => rfl)⟩
    · simp only [decide_eq_false_iff_not] at hb
      have : i = l.length := by omega
      subst this
      rw [List.take_length] at hacc
      repeat (first | refine N.seq ?_ | refine N.blk ?_ | refine W.seq rfl ?_ | refine W.block rfl ?_ | refine W.skip rfl ?_ | refine W.ret rfl ?_ | refine N.nil ?_ | refine N.loop ?_ | refine W.exit rfl ?_ | refine X.seq ?_ | refine X.loop ?_ | refine X.hit ?_ | refine X.pass (by decide) ?_ | refine W.condT rfl (by rfl) ?_ | refine W.condF rfl (by rfl) ?_ | refine W.region tm rg_specs_ok rfl (by conv => lhs; simp) fun _ => ?_ | refine W.regionD tm rg_specs_ok rfl (by conv => lhs; simp) (by conv => lhs; simp) (by kernel_rfl) fun _ => ?_)
      rw [ha, hacc]
      first | exact Ret.dataR rfl (by conv => lhs; simp) (by conv => lhs; simp) (by first | rfl | simp [inlT, inlV]) | fail "no return here"
end Go.Abs.Cp
