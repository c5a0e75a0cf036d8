/- Halving as the reference does. Conditions: none. -/
import Derived.Test.YtffoafkdoclfcaaGrI
namespace Go.Abs.Gr
open Go Go.Proofs Go.Abs
set_option maxRecDepth 100000
set_option maxHeartbeats 4000000
set_option linter.unusedSimpArgs false
set_option linter.unusedVariables false
attribute [local simp] runL stepA execA_eq skipA run_ret run_fail run_get run_put run_asm num lk st lk_st putA AS.ev ofValue ofFlat mkv splice fieldAddrA buildA fillA runF gdst pickA unOpA extractA resVs resV pack frzT inlT inlV frzV frzVs frzL frz1 newId AV.cellsOf AV.flat AV.flat2 specOf loadA_runR capA copyA copyTo srcA sliceCA slice3A appendZA extA AV.place lenCA clearA clearTo expG expB3 List.zipWith renL fF handB renB AV.ren backF backL idsOf freshIds refsL refsB AV.refs List.range List.range.loop placesA sliceRows rowsOf convertA sliceArrA sliceA bndA nilCheckA arrayAtA mmA lookupA keyOf keyOK findA keyEqA foundA makeMapA mapUpdateA appendA rowsA indexA partA fieldA retE2 frqT frqV frqVs frqL frq1 reachE blkRefs outE nodupE firstE seqO expB2 expF take_len_map
def in64 (n : Int) : Prop := -9223372036854775808 ≤ n ∧ n ≤ 9223372036854775807
def encH (n : { n : Int // in64 n }) : List AV := [.int .i64 n.1]
theorem encH_inj {β : Type} {f : { n : Int // in64 n } → β} : ∀ x y, encH x = encH y → f x = f y := fun x y h => by
  simp only [encH, List.cons.injEq, AV.int.injEq, true_and, and_true] at h
  rw [Subtype.ext h]
noncomputable def halfS : SpecFn := mkS encH fun n => (.int .i64 (n.1.fdiv 2), [])
theorem halfS_eq (n : Int) (h : in64 n) : halfS [.int .i64 n] [] = some (.int .i64 (n.fdiv 2), []) := mkS_eq (enc := encH) encH_inj ⟨n, h⟩
theorem half_neg {n : Int} (h1 : n < 0) (h2 : ¬ n.tmod 2 = 0) : n.tdiv 2 - 1 = n.fdiv 2 := by
  have e1 := Int.tmod_add_mul_tdiv n 2
  have e2 := Int.emod_add_mul_ediv n 2
  have e3 : n.fdiv 2 = n / 2 := Int.fdiv_eq_ediv_of_nonneg n (by omega)
  have b1 := Int.emod_nonneg n (show (2 : Int) ≠ 0 by omega)
  have b2 := Int.emod_lt_of_pos n (show (0 : Int) < 2 by omega)
  have b3 : (-n).tmod 2 < 2 := Int.tmod_lt_of_pos _ (by omega)
  have b4 : 0 ≤ (-n).tmod 2 := Int.tmod_nonneg _ (by omega)
  rw [Int.neg_tmod] at b3 b4
  omega
theorem half_pos {n : Int} (h : 0 ≤ n ∨ n.tmod 2 = 0) : n.tdiv 2 = n.fdiv 2 := by
  have e1 := Int.tmod_add_mul_tdiv n 2
  have e2 := Int.emod_add_mul_ediv n 2
  have e3 : n.fdiv 2 = n / 2 := Int.fdiv_eq_ediv_of_nonneg n (by omega)
  have b1 := Int.emod_nonneg n (show (2 : Int) ≠ 0 by omega)
  have b2 := Int.emod_lt_of_pos n (show (0 : Int) < 2 by omega)
  rcases h with h | h
  · have b3 : n.tmod 2 < 2 := Int.tmod_lt_of_pos _ (by omega)
    have b4 : 0 ≤ n.tmod 2 := Int.tmod_nonneg _ (by omega)
    omega
  · omega
theorem half_ok : FnC Try.prog 50 halfS := by
  refine FnC.walk 50 (fn := Try.f50) Try.func50 rfl (by kernel_rfl) fun n => ?_
  obtain ⟨n, hn⟩ := n
  have hn1 := hn.1
  have hn2 := hn.2
  change W _ _ _ _ ⟨15, [(0, .int .i64 n)], []⟩
  have e3 : n.fdiv 2 = n / 2 := Int.fdiv_eq_ediv_of_nonneg n (by omega)
  have hw0 : IntKind.i64.wrap (n.fdiv 2) = n.fdiv 2 := w64 (by omega) (by omega)
  by_cases h1 : n < 0
  · by_cases h2 : n.tmod 2 = 0
    · have e := half_pos (.inr h2)
      have h2 : (n.tmod 2 != 0) = false := by simpa using h2
      repeat (first | refine N.seq ?_ | refine N.blk ?_ | refine W.seq rfl ?_ | refine W.block rfl ?_ | refine W.skip rfl ?_ | refine W.ret rfl ?_ | refine N.nil ?_ | refine N.loop ?_ | refine W.exit rfl ?_ | refine X.seq ?_ | refine X.loop ?_ | refine X.hit ?_ | refine X.pass (by decide) ?_ | refine W.condT rfl (by rfl) ?_ | refine W.condF rfl (by rfl) ?_ | refine W.region tm no_specs rfl (by conv => lhs; simp [h1, h2, e, hw0]) fun _ => ?_ | refine W.regionD tm no_specs rfl (by conv => lhs; simp [h1, h2, e, hw0]) (by conv => lhs; simp) (by kernel_rfl) fun _ => ?_)
      first | exact Ret.dataR rfl (by conv => lhs; simp) (by conv => lhs; simp) (by first | rfl | simp [inlT, inlV]) | fail "no return here"
    · have e := half_neg h1 h2
      have h2 : (n.tmod 2 != 0) = true := by simpa using h2
      have hw1 : IntKind.i64.wrap (n.tdiv 2) = n.tdiv 2 := w64 (by omega) (by omega)
      repeat (first | refine N.seq ?_ | refine N.blk ?_ | refine W.seq rfl ?_ | refine W.block rfl ?_ | refine W.skip rfl ?_ | refine W.ret rfl ?_ | refine N.nil ?_ | refine N.loop ?_ | refine W.exit rfl ?_ | refine X.seq ?_ | refine X.loop ?_ | refine X.hit ?_ | refine X.pass (by decide) ?_ | refine W.condT rfl (by rfl) ?_ | refine W.condF rfl (by rfl) ?_ | refine W.region tm no_specs rfl (by conv => lhs; simp [h1, h2, hw1, e, hw0]) fun _ => ?_ | refine W.regionD tm no_specs rfl (by conv => lhs; simp [h1, h2, hw1, e, hw0]) (by conv => lhs; simp) (by kernel_rfl) fun _ => ?_)
      first | exact Ret.dataR rfl (by conv => lhs; simp) (by conv => lhs; simp) (by first | rfl | simp [inlT, inlV]) | fail "no return here"
  · have e := half_pos (n := n) (.inl (by omega))
    repeat (first | refine N.seq ?_ | refine N.blk ?_ | refine W.seq rfl ?_ | refine W.block rfl ?_ | refine W.skip rfl ?_ | refine W.ret rfl ?_ | refine N.nil ?_ | refine N.loop ?_ | refine W.exit rfl ?_ | refine X.seq ?_ | refine X.loop ?_ | refine X.hit ?_ | refine X.pass (by decide) ?_ | refine W.condT rfl (by rfl) ?_ | refine W.condF rfl (by rfl) ?_ | refine W.region tm no_specs rfl (by conv => lhs; simp [h1, e, hw0]) fun _ => ?_ | refine W.regionD tm no_specs rfl (by conv => lhs; simp [h1, e, hw0]) (by conv => lhs; simp) (by kernel_rfl) fun _ => ?_)
    first | exact Ret.dataR rfl (by conv => lhs; simp) (by conv => lhs; simp) (by first | rfl | simp [inlT, inlV]) | fail "no return here"
def TksI := { l : List Tk // l.length ≤ 200 ∧ ∀ x ∈ l, in64 x.c }
def encLI (l : TksI) : List AV := [.list 3 (l.1.map Tk.cells)]
theorem encLI_inj {β : Type} {f : TksI → β} : ∀ x y, encLI x = encLI y → f x = f y := fun x y h => by
  simp only [encLI, List.cons.injEq, AV.list.injEq, true_and, and_true] at h
  rw [Subtype.ext (map_inj Tk.inj h)]
noncomputable def decrS : SpecFn := mkS encLI fun l => (.list 3 ((dec l.1).map Tk.cells), [])
theorem decrS_eq (l : List Tk) (h : l.length ≤ 200) (h2 : ∀ x ∈ l, in64 x.c) : decrS [.list 3 (l.map Tk.cells)] [] = some (.list 3 ((dec l).map Tk.cells), []) := mkS_eq (enc := encLI) encLI_inj ⟨l, h, h2⟩
noncomputable def dr_specs : NL Spec := [(50, ⟨0, halfS⟩)]
theorem dr_specs_ok : ∀ p ∈ dr_specs, FnC Try.prog p.1 p.2.fn := by
  simp only [dr_specs, List.mem_cons, List.not_mem_nil, or_false]
  rintro p rfl
  exact half_ok
attribute [local simp] dr_specs
theorem decr_ok : FnC Try.prog 30 decrS := by
  refine FnC.walk 30 (fn := Try.f30) Try.func30 rfl (by kernel_rfl) fun l => ?_
  obtain ⟨l, hl, hin⟩ := l
  change W _ _ _ _ ⟨28, [(0, .list 3 (l.map Tk.cells))], []⟩
  repeat (first | refine N.seq ?_ | refine N.blk ?_ | refine W.seq rfl ?_ | refine W.block rfl ?_ | refine W.skip rfl ?_ | refine W.ret rfl ?_ | refine N.nil ?_ | refine N.loop ?_ | refine W.exit rfl ?_ | refine X.seq ?_ | refine X.loop ?_ | refine X.hit ?_ | refine X.pass (by decide) ?_ | refine W.condT rfl (by rfl) ?_ | refine W.condF rfl (by rfl) ?_ | refine W.region tm dr_specs_ok rfl (by conv => lhs; simp) fun _ => ?_ | refine W.regionD tm dr_specs_ok rfl (by conv => lhs; simp) (by conv => lhs; simp) (by kernel_rfl) fun _ => ?_)
  refine W.phantom (t := 3) 1000 27 3 true rfl rfl (by decide) ?_
  refine W.loop rfl (ι := { q : Nat × NL ABlk // q.1 ≤ l.length ∧ lk q.2 1000 = some (decB (dec (l.take q.1))) })
    (fun q => ⟨28, [(3, .sl 1000 (dec (l.take q.1.1)).length 0 (dec (l.take q.1.1)).length), (0, .list 3 (l.map Tk.cells)), (4, .int .i64 q.1.1)], q.1.2⟩) (fun q => l.length - q.1.1)
    ⟨(0, _), by simp, by simp [dec, decB, lk]⟩ (AS.le_of rfl ⟨rfl, rfl, rfl, trivial⟩ (fun _ => rfl)) ?_
  rintro ⟨⟨k, h⟩, hk, hh⟩
  dsimp only at hk hh ⊢
  by_cases hk2 : k = l.length
  · subst hk2
    have q : ¬ (l.length : Int) < l.length := by omega
    rw [List.take_of_length_le (Nat.le_refl _)] at hh ⊢
    repeat (first | refine N.seq ?_ | refine N.blk ?_ | refine W.seq rfl ?_ | refine W.block rfl ?_ | refine W.skip rfl ?_ | refine W.ret rfl ?_ | refine N.nil ?_ | refine N.loop ?_ | refine W.exit rfl ?_ | refine X.seq ?_ | refine X.loop ?_ | refine X.hit ?_ | refine X.pass (by decide) ?_ | refine W.condT rfl (by rfl) ?_ | refine W.condF rfl (by rfl) ?_ | refine W.region tm dr_specs_ok rfl (by conv => lhs; simp [q, hh, decB]) fun _ => ?_ | refine W.regionD tm dr_specs_ok rfl (by conv => lhs; simp [q, hh, decB]) (by conv => lhs; simp) (by kernel_rfl) fun _ => ?_)
    first | exact Ret.dataR rfl (by conv => lhs; simp [hh, decB]) (by conv => lhs; simp [hh, decB]) (by first | rfl | simp [inlT, inlV]) | fail "no return here"
  · have hlt : k < l.length := by omega
    have q : (k : Int) < l.length := by omega
    have hw := w64_succ hlt (Nat.le_trans hl (by decide))
    have hsucc := dec_take_succ l hlt
    have hdl : (dec (l.take k)).length ≤ k := by have := dec_len (l.take k); rw [List.length_take] at this; omega
    have c1 : (dec (l.take k)).length + 1 ≤ 200 := by omega
    have c2 : (dec (l.take k)).length ≤ 200 := by omega
    have hH := halfS_eq l[k].c (hin _ (List.getElem_mem hlt))
    by_cases hc : 1 ≤ l[k].c.fdiv 2
    · rw [if_pos (by exact hc)] at hsucc
      repeat (first | refine N.seq ?_ | refine N.blk ?_ | refine W.seq rfl ?_ | refine W.block rfl ?_ | refine W.skip rfl ?_ | refine W.ret rfl ?_ | refine N.nil ?_ | refine N.loop ?_ | refine W.exit rfl ?_ | refine X.seq ?_ | refine X.loop ?_ | refine X.hit ?_ | refine X.pass (by decide) ?_ | refine W.condT rfl (by rfl) ?_ | refine W.condF rfl (by rfl) ?_ | refine W.region tm dr_specs_ok rfl (by conv => lhs; simp [q, hlt, Tk.cells, hw, hc, hH, hh, decB, capM c2, capB c1, maxLen]) fun _ => ?_ | refine W.regionD tm dr_specs_ok rfl (by conv => lhs; simp [q, hlt, Tk.cells, hw, hc, hH, hh, decB, capM c2, capB c1, maxLen]) (by conv => lhs; simp) (by kernel_rfl) fun _ => ?_)
      refine ⟨⟨(k + 1, _), by dsimp only; omega, ?_⟩, by dsimp only; omega, AS.le_of rfl ⟨by rw [hsucc]; simp [lk], rfl, rfl, trivial⟩ (fun _ => rfl)⟩
      dsimp only
      rw [hsucc]
      simp [lk_st, decB, hf, Tk.cells]
    · rw [if_neg (by exact hc)] at hsucc
      repeat (first | refine N.seq ?_ | refine N.blk ?_ | refine W.seq rfl ?_ | refine W.block rfl ?_ | refine W.skip rfl ?_ | refine W.ret rfl ?_ | refine N.nil ?_ | refine N.loop ?_ | refine W.exit rfl ?_ | refine X.seq ?_ | refine X.loop ?_ | refine X.hit ?_ | refine X.pass (by decide) ?_ | refine W.condT rfl (by rfl) ?_ | refine W.condF rfl (by rfl) ?_ | refine W.region tm dr_specs_ok rfl (by conv => lhs; simp [q, hlt, Tk.cells, hw, hc, hH, hh, decB]) fun _ => ?_ | refine W.regionD tm dr_specs_ok rfl (by conv => lhs; simp [q, hlt, Tk.cells, hw, hc, hH, hh, decB]) (by conv => lhs; simp) (by kernel_rfl) fun _ => ?_)
      refine ⟨⟨(k + 1, _), by dsimp only; omega, ?_⟩, by dsimp only; omega, AS.le_of rfl ⟨by rw [hsucc]; rfl, rfl, rfl, trivial⟩ (fun _ => rfl)⟩
      dsimp only
      rw [hsucc]
      simp [lk_st, hh]
      try rfl
end Go.Abs.Gr
