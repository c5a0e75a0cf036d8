/- The statement about full talks: the walk. Conditions: none. -/
import Derived.Test.YtffoafkdoclfcaaGrG
namespace Go.Abs.Gr
open Go Go.Proofs Go.Abs
set_option maxRecDepth 100000
set_option maxHeartbeats 4000000
set_option linter.unusedSimpArgs false
set_option linter.unusedVariables false
theorem take_len_map {α β : Type} (f : α → β) (l : List α) : (l.map f).take l.length = l.map f := List.take_of_length_le (by simp)
def mkT (i : Int) : Tk := ⟨5, 10 + i, IntKind.i64.wrap (1048575 + i.tmod 2)⟩
def mk (k : Nat) : List Tk := (List.range k).map fun i : Nat => mkT i
theorem mk_succ (k : Nat) : (mk (k + 1)).map Tk.cells = (mk k).map Tk.cells ++ [(mkT k).cells] := by
  simp [mk, List.range_succ]
theorem mk_len (k : Nat) : (mk k).length = k := by simp [mk]
theorem capN {k : Nat} (h : k ≤ 200) : k ≤ 9223372036854775805 := by omega
theorem noteS_eq (l : List Tk) (a b : Int) (h : l.length ≤ 200) : noteS [.list 3 (l.map Tk.cells), .int .u64 a, .int .u64 b] [] =
    some (.sl 0 0 0 (note l a b).length, [{ gen := 0, kind := 2, elem := 27, size := 3, inl := true, rows := (note l a b).map Tk.cells }]) := mkS2_eq (enc := encNt) encNt_inj (⟨l, h⟩, a, b)
theorem noterS_eq (l : List Tk) (a b : Int) (h : l.length ≤ 200) : noterS [.list 3 (l.map Tk.cells), .int .u64 a, .int .u64 b] [] = some (.list 3 ((note l a b).map Tk.cells), []) := mkS_eq (enc := encNr) encNr_inj (⟨l, h⟩, a, b)
noncomputable def m_specs : NL Spec := [(8, ⟨0, runFn Try.prog 1000 12 8⟩), (9, ⟨0, modS⟩), (10, ⟨1, sameS⟩), (11, ⟨3, noteS⟩), (12, ⟨1, noterS⟩)]
theorem m_specs_ok : ∀ p ∈ m_specs, FnC Try.prog p.1 p.2.fn := by
  simp only [m_specs, List.mem_cons, List.not_mem_nil, or_false]
  rintro p (rfl | rfl | rfl | rfl | rfl)
  · exact sane_ok
  · exact mod_ok
  · exact same_ok
  · exact note_ok
  · exact noter_ok
attribute [local simp] runL stepA execA_eq skipA run_ret run_fail run_get run_put run_asm num lk st lk_st putA AS.ev ofValue ofFlat mkv splice fieldAddrA buildA fillA runF gdst pickA unOpA extractA resVs resV pack frzT inlT inlV frzV frzVs frzL frz1 newId AV.cellsOf AV.flat AV.flat2 specOf loadA_runR capA copyA copyTo srcA sliceCA slice3A appendZA extA AV.place lenCA clearA clearTo expG expB3 List.zipWith renL fF handB renB AV.ren backF backL idsOf freshIds refsL refsB AV.refs List.range List.range.loop placesA sliceRows rowsOf convertA sliceArrA sliceA bndA nilCheckA arrayAtA mmA lookupA keyOf keyOK findA keyEqA foundA makeMapA mapUpdateA appendA rowsA indexA partA fieldA retE2 frqT frqV frqVs frqL frq1 reachE blkRefs outE nodupE firstE seqO expB2 expF instA m_specs sane_run take_len_map List.findIdx?_cons List.findIdx?_nil
def tv : Nat → AV
  | 0 => .nils
  | k + 1 => .sl 480 (k + 1) 0 (k + 1)
def encM (x : Int × Int × Int) : List AV := [.int .i64 x.1, .int .u64 x.2.1, .int .u64 x.2.2]
theorem encM_inj {β : Type} {f : Int × Int × Int → β} : ∀ x y, encM x = encM y → f x = f y := fun x y h => by
  simp only [encM, List.cons.injEq, AV.int.injEq, true_and, and_true] at h
  obtain ⟨a, b, c⟩ := x
  obtain ⟨a', b', c'⟩ := y
  obtain ⟨rfl, rfl, rfl⟩ := h
  rfl
noncomputable def lawMS : SpecFn := mkS encM fun _ => (.bool true, [])
theorem lawM_ok : FnC Try.prog 3 lawMS := by
  refine FnC.walk 3 (fn := Try.f3) Try.func3 rfl (by kernel_rfl) fun x => ?_
  obtain ⟨n, a, b⟩ := x
  change W _ _ _ _ ⟨62, [(0, .int .i64 n), (1, .int .u64 a), (2, .int .u64 b)], []⟩
  have hm := modS_eq n 2 (by omega) (by omega)
  repeat (first | refine N.seq ?_ | refine N.blk ?_ | refine W.seq rfl ?_ | refine W.block rfl ?_ | refine W.skip rfl ?_ | refine W.ret rfl ?_ | refine N.nil ?_ | refine N.loop ?_ | refine W.exit rfl ?_ | refine X.seq ?_ | refine X.loop ?_ | refine X.hit ?_ | refine X.pass (by decide) ?_ | refine W.condT rfl (by rfl) ?_ | refine W.condF rfl (by rfl) ?_ | refine W.region tm m_specs_ok rfl (by conv => lhs; simp) fun _ => ?_ | refine W.regionD tm m_specs_ok rfl (by conv => lhs; simp) (by conv => lhs; simp) (by kernel_rfl) fun _ => ?_)
  obtain ⟨m, hm2, hm3⟩ : ∃ m : Nat, 127 + n % 2 = m ∧ m ≤ 128 := ⟨(127 + n % 2).toNat, by omega, by omega⟩
  have hw : IntKind.i64.wrap (127 + n % 2) = m := by rw [hm2]; exact w64 (by omega) (by omega)
  refine W.loop rfl (ι := { q : Nat × NL ABlk // q.1 ≤ m ∧ (q.1 = 0 → lk q.2 480 = none) ∧ (0 < q.1 → lk q.2 480 = some { gen := q.1, kind := 2, elem := 27, size := 3, inl := true, rows := (mk q.1).map Tk.cells }) })
    (fun q => ⟨62, [(0, .int .i64 n), (1, .int .u64 a), (2, .int .u64 b), (7, tv q.1.1), (8, .int .i64 q.1.1)], q.1.2⟩) (fun q => m - q.1.1)
    ⟨(0, _), by simp, fun _ => rfl, by simp⟩ (AS.le_of rfl ⟨rfl, rfl, rfl, rfl, rfl, trivial⟩ (fun _ => rfl)) ?_
  rintro ⟨⟨k, h⟩, hk, hh0, hh⟩
  dsimp only at hk hh0 hh ⊢
  by_cases hk2 : k = m
  · have q : ¬ (k : Int) < m := by omega
    subst hk2
    obtain ⟨j, rfl⟩ : ∃ j, k = j + 1 := ⟨k - 1, by omega⟩
    have hh1 := hh (by omega)
    clear hh0 hh
    generalize hL : mk (j + 1) = L at hh1
    have hLl : L.length = j + 1 := by rw [← hL, mk_len]
    rw [← hLl] at hh1 hk q hm2 hw
    have e1 : (L.map Tk.cells).take L.length = L.map Tk.cells := take_len_map _ _
    have hcl : L.length ≤ 200 := by omega
    simp only [tv, ← hLl]
    repeat (first | refine N.seq ?_ | refine N.blk ?_ | refine W.seq rfl ?_ | refine W.block rfl ?_ | refine W.skip rfl ?_ | refine W.ret rfl ?_ | refine N.nil ?_ | refine N.loop ?_ | refine W.exit rfl ?_ | refine X.seq ?_ | refine X.loop ?_ | refine X.hit ?_ | refine X.pass (by decide) ?_ | refine W.condT rfl (by rfl) ?_ | refine W.condF rfl (by rfl) ?_ | refine W.region tm m_specs_ok rfl (by conv => lhs; simp [hm, hw, q, maxLen]) fun _ => ?_ | refine W.regionD tm m_specs_ok rfl (by conv => lhs; simp [hm, hw, q, maxLen]) (by conv => lhs; simp) (by kernel_rfl) fun _ => ?_)
    refine W.frz 7 rfl (by conv => lhs; simp [frqT, frqV, frqVs, frqL, frq1, hh1, e1]) ?_
    refine W.frz 41 rfl (by conv => lhs; simp [frqT, frqV, frqVs, frqL, frq1, hh1]) ?_
    generalize IntKind.u64.wrap (10 + b.tmod 200) = y1
    generalize IntKind.u64.wrap (11 + a.tmod 200) = y2
    clear hL hh1
    refine W.loop rfl (ι := { q : Nat × NL ABlk // q.1 ≤ 3 })
      (fun q => ⟨62, [(7, .list 3 (List.map Tk.cells L)), (41, .list 2 [[.int .u64 a, .int .u64 b], [.int .u64 5, .int .u64 y1], [.int .u64 y2, .int .u64 5]]), (42, .int .i64 3), (43, .int .i64 q.1.1)], q.1.2⟩) (fun q => 3 - q.1.1)
      ⟨(0, _), by simp⟩ (AS.le_of rfl ⟨rfl, rfl, rfl, rfl, trivial⟩ (fun _ => rfl)) ?_
    rintro ⟨⟨i, h⟩, hi⟩
    dsimp only at hi ⊢
    have t1 := noteS_eq L
    have t2 := noterS_eq L
    have l1 : IntKind.i64.wrap 1 = 1 := by decide
    have l2 : IntKind.i64.wrap 2 = 2 := by decide
    have l3 : IntKind.i64.wrap 3 = 3 := by decide
    match i, hi with
    | 0, _ =>
      have t3 := sameS_eq (note L a b) (note_len L a b hcl)
      repeat (first | refine N.seq ?_ | refine N.blk ?_ | refine W.seq rfl ?_ | refine W.block rfl ?_ | refine W.skip rfl ?_ | refine W.ret rfl ?_ | refine N.nil ?_ | refine N.loop ?_ | refine W.exit rfl ?_ | refine X.seq ?_ | refine X.loop ?_ | refine X.hit ?_ | refine X.pass (by decide) ?_ | refine W.condT rfl (by rfl) ?_ | refine W.condF rfl (by rfl) ?_ | refine W.region tm m_specs_ok rfl (by conv => lhs; simp [hcl, noteS_eq, noterS_eq, t3, l1, l2, l3, maxLen]) fun _ => ?_ | refine W.regionD tm m_specs_ok rfl (by conv => lhs; simp [hcl, noteS_eq, noterS_eq, t3, l1, l2, l3, maxLen]) (by conv => lhs; simp) (by kernel_rfl) fun _ => ?_)
      exact ⟨⟨(1, _), by simp⟩, by dsimp only; omega, AS.le_of rfl ⟨rfl, rfl, rfl, rfl, trivial⟩ (fun _ => rfl)⟩
    | 1, _ =>
      have t3 := sameS_eq (note L 5 y1) (note_len L 5 y1 hcl)
      repeat (first | refine N.seq ?_ | refine N.blk ?_ | refine W.seq rfl ?_ | refine W.block rfl ?_ | refine W.skip rfl ?_ | refine W.ret rfl ?_ | refine N.nil ?_ | refine N.loop ?_ | refine W.exit rfl ?_ | refine X.seq ?_ | refine X.loop ?_ | refine X.hit ?_ | refine X.pass (by decide) ?_ | refine W.condT rfl (by rfl) ?_ | refine W.condF rfl (by rfl) ?_ | refine W.region tm m_specs_ok rfl (by conv => lhs; simp [hcl, noteS_eq, noterS_eq, t3, l1, l2, l3, maxLen]) fun _ => ?_ | refine W.regionD tm m_specs_ok rfl (by conv => lhs; simp [hcl, noteS_eq, noterS_eq, t3, l1, l2, l3, maxLen]) (by conv => lhs; simp) (by kernel_rfl) fun _ => ?_)
      exact ⟨⟨(2, _), by simp⟩, by dsimp only; omega, AS.le_of rfl ⟨rfl, rfl, rfl, rfl, trivial⟩ (fun _ => rfl)⟩
    | 2, _ =>
      have t3 := sameS_eq (note L y2 5) (note_len L y2 5 hcl)
      repeat (first | refine N.seq ?_ | refine N.blk ?_ | refine W.seq rfl ?_ | refine W.block rfl ?_ | refine W.skip rfl ?_ | refine W.ret rfl ?_ | refine N.nil ?_ | refine N.loop ?_ | refine W.exit rfl ?_ | refine X.seq ?_ | refine X.loop ?_ | refine X.hit ?_ | refine X.pass (by decide) ?_ | refine W.condT rfl (by rfl) ?_ | refine W.condF rfl (by rfl) ?_ | refine W.region tm m_specs_ok rfl (by conv => lhs; simp [hcl, noteS_eq, noterS_eq, t3, l1, l2, l3, maxLen]) fun _ => ?_ | refine W.regionD tm m_specs_ok rfl (by conv => lhs; simp [hcl, noteS_eq, noterS_eq, t3, l1, l2, l3, maxLen]) (by conv => lhs; simp) (by kernel_rfl) fun _ => ?_)
      exact ⟨⟨(3, _), by simp⟩, by dsimp only; omega, AS.le_of rfl ⟨rfl, rfl, rfl, rfl, trivial⟩ (fun _ => rfl)⟩
    | 3, _ =>
      repeat (first | refine N.seq ?_ | refine N.blk ?_ | refine W.seq rfl ?_ | refine W.block rfl ?_ | refine W.skip rfl ?_ | refine W.ret rfl ?_ | refine N.nil ?_ | refine N.loop ?_ | refine W.exit rfl ?_ | refine X.seq ?_ | refine X.loop ?_ | refine X.hit ?_ | refine X.pass (by decide) ?_ | refine W.condT rfl (by rfl) ?_ | refine W.condF rfl (by rfl) ?_ | refine W.region tm m_specs_ok rfl (by conv => lhs; simp) fun _ => ?_ | refine W.regionD tm m_specs_ok rfl (by conv => lhs; simp) (by conv => lhs; simp) (by kernel_rfl) fun _ => ?_)
      first | exact Ret.dataR rfl (by conv => lhs; simp) (by conv => lhs; simp) (by first | rfl | simp [inlT, inlV]) | fail "no return here"
  · have q : (k : Int) < m := by omega
    match k with
    | 0 =>
      have q0 : 0 < m := by omega
      have h0 := hh0 rfl
      have l1 : IntKind.i64.wrap 1 = 1 := by decide
      have l2 : IntKind.u64.wrap 10 = 10 := by decide
      have l4 : IntKind.i64.wrap 10 = 10 := by decide
      repeat (first | refine N.seq ?_ | refine N.blk ?_ | refine W.seq rfl ?_ | refine W.block rfl ?_ | refine W.skip rfl ?_ | refine W.ret rfl ?_ | refine N.nil ?_ | refine N.loop ?_ | refine W.exit rfl ?_ | refine X.seq ?_ | refine X.loop ?_ | refine X.hit ?_ | refine X.pass (by decide) ?_ | refine W.condT rfl (by rfl) ?_ | refine W.condF rfl (by rfl) ?_ | refine W.region tm m_specs_ok rfl (by conv => lhs; simp [hm, hw, q0, maxLen, tv, h0, l1, l2, l4]) fun _ => ?_ | refine W.regionD tm m_specs_ok rfl (by conv => lhs; simp [hm, hw, q0, maxLen, tv, h0, l1, l2, l4]) (by conv => lhs; simp) (by kernel_rfl) fun _ => ?_)
      refine ⟨⟨(1, _), by dsimp only; omega, by simp, fun _ => ?_⟩, by dsimp only; omega, AS.le_of rfl ⟨rfl, rfl, rfl, rfl, rfl, trivial⟩ (fun _ => rfl)⟩
      simp only [mk_succ]
      simp [lk_st, mk, mkT, Tk.cells]
    | k + 1 =>
      have q1 : (k : Int) + 1 < m := by omega
      have hh1 := hh (by omega)
      have hw4 : IntKind.i64.wrap ((k : Int) + 1 + 1) = (k : Int) + 1 + 1 := w64 (by omega) (by omega)
      have hw5 : IntKind.i64.wrap (10 + ((k : Int) + 1)) = 10 + ((k : Int) + 1) := w64 (by omega) (by omega)
      have hw6 : IntKind.u64.wrap (10 + ((k : Int) + 1)) = 10 + ((k : Int) + 1) := wu64 (by omega) (by omega)
      have c1 : k + 1 + 1 ≤ 200 := by omega
      have c2 : k ≤ 200 := by omega
      repeat (first | refine N.seq ?_ | refine N.blk ?_ | refine W.seq rfl ?_ | refine W.block rfl ?_ | refine W.skip rfl ?_ | refine W.ret rfl ?_ | refine N.nil ?_ | refine N.loop ?_ | refine W.exit rfl ?_ | refine X.seq ?_ | refine X.loop ?_ | refine X.hit ?_ | refine X.pass (by decide) ?_ | refine W.condT rfl (by rfl) ?_ | refine W.condF rfl (by rfl) ?_ | refine W.region tm m_specs_ok rfl (by conv => lhs; simp [hm, hw, q1, maxLen, hw4, hw5, hw6, tv, hh1, capN c2, capB c1, mk_len]) fun _ => ?_ | refine W.regionD tm m_specs_ok rfl (by conv => lhs; simp [hm, hw, q1, maxLen, hw4, hw5, hw6, tv, hh1, capN c2, capB c1, mk_len]) (by conv => lhs; simp) (by kernel_rfl) fun _ => ?_)
      refine ⟨⟨(k + 1 + 1, _), by dsimp only; omega, by simp, fun _ => ?_⟩, by dsimp only; omega, AS.le_of rfl ⟨rfl, rfl, rfl, rfl, by simp [lk], trivial⟩ (fun _ => rfl)⟩
      simp only [mk_succ (k + 1)]
      simp [lk_st, mkT, Tk.cells]
end Go.Abs.Gr
