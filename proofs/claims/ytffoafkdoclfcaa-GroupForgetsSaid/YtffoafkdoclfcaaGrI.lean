/- Halving. Conditions: none. -/
import Derived.Test.YtffoafkdoclfcaaGrH
namespace Go.Abs.Gr
open Go Go.Proofs Go.Abs
set_option maxRecDepth 100000
set_option maxHeartbeats 4000000
set_option linter.unusedSimpArgs false
set_option linter.unusedVariables false
def hf (x : Tk) : Tk := ⟨x.a, x.b, x.c.fdiv 2⟩
def dec (l : List Tk) : List Tk := (l.map hf).filter fun x => decide (1 ≤ x.c)
theorem dec_len (l : List Tk) : (dec l).length ≤ l.length := by
  have := List.length_filter_le (fun x : Tk => decide (1 ≤ x.c)) (l.map hf)
  simpa [dec] using this
theorem dec_take_succ (l : List Tk) {k : Nat} (hk : k < l.length) : dec (l.take (k + 1)) = if 1 ≤ (hf l[k]).c then dec (l.take k) ++ [hf l[k]] else dec (l.take k) := by
  rw [dec, List.take_succ_eq_append_getElem hk, List.map_append, List.filter_append]
  by_cases h : 1 ≤ (hf l[k]).c <;> simp [dec, h]
attribute [local simp] runL stepA execA_eq skipA run_ret run_fail run_get run_put run_asm num lk st lk_st putA AS.ev ofValue ofFlat mkv splice fieldAddrA buildA fillA runF gdst pickA unOpA extractA resVs resV pack frzT inlT inlV frzV frzVs frzL frz1 newId AV.cellsOf AV.flat AV.flat2 specOf loadA_runR capA copyA copyTo srcA sliceCA slice3A appendZA extA AV.place lenCA clearA clearTo expG expB3 List.zipWith renL fF handB renB AV.ren backF backL idsOf freshIds refsL refsB AV.refs List.range List.range.loop placesA sliceRows rowsOf convertA sliceArrA sliceA bndA nilCheckA arrayAtA mmA lookupA keyOf keyOK findA keyEqA foundA makeMapA mapUpdateA appendA rowsA indexA partA fieldA retE2 frqT frqV frqVs frqL frq1 reachE blkRefs outE nodupE firstE seqO expB2 expF take_len_map
def encL (l : Tks) : List AV := [.list 3 (l.1.map Tk.cells)]
theorem encL_inj {β : Type} {f : Tks → β} : ∀ x y, encL x = encL y → f x = f y := fun x y h => by
  simp only [encL, List.cons.injEq, AV.list.injEq, true_and, and_true] at h
  rw [Subtype.ext (map_inj Tk.inj h)]
noncomputable def decS : SpecFn := mkS encL fun l => (.list 3 ((dec l.1).map Tk.cells), [])
theorem decS_eq (l : List Tk) (h : l.length ≤ 200) : decS [.list 3 (l.map Tk.cells)] [] = some (.list 3 ((dec l).map Tk.cells), []) := mkS_eq (enc := encL) encL_inj ⟨l, h⟩
def decB (l : List Tk) : ABlk := { gen := l.length, kind := 2, elem := 27, size := 3, inl := true, rows := l.map Tk.cells }
theorem dec_ok : FnC Try.prog 20 decS := by
  refine FnC.walk 20 (fn := Try.f20) Try.func20 rfl (by kernel_rfl) fun l => ?_
  obtain ⟨l, hl⟩ := l
  change W _ _ _ _ ⟨25, [(0, .list 3 (l.map Tk.cells))], []⟩
  repeat (first | refine N.seq ?_ | refine N.blk ?_ | refine W.seq rfl ?_ | refine W.block rfl ?_ | refine W.skip rfl ?_ | refine W.ret rfl ?_ | refine N.nil ?_ | refine N.loop ?_ | refine W.exit rfl ?_ | refine X.seq ?_ | refine X.loop ?_ | refine X.hit ?_ | refine X.pass (by decide) ?_ | refine W.condT rfl (by rfl) ?_ | refine W.condF rfl (by rfl) ?_ | refine W.region tm no_specs rfl (by conv => lhs; simp) fun _ => ?_ | refine W.regionD tm no_specs rfl (by conv => lhs; simp) (by conv => lhs; simp) (by kernel_rfl) fun _ => ?_)
  refine W.phantom (t := 3) 1000 27 3 true rfl rfl (by decide) ?_
  refine W.loop rfl (ι := { q : Nat × NL ABlk // q.1 ≤ l.length ∧ lk q.2 1000 = some (decB (dec (l.take q.1))) })
    (fun q => ⟨25, [(3, .sl 1000 (dec (l.take q.1.1)).length 0 (dec (l.take q.1.1)).length), (6, .list 3 (l.map Tk.cells)), (7, .int .i64 l.length), (8, .int .i64 q.1.1)], q.1.2⟩) (fun q => l.length - q.1.1)
    ⟨(0, _), by simp, by simp [dec, decB, lk]⟩ (AS.le_of rfl ⟨rfl, rfl, rfl, rfl, trivial⟩ (fun _ => rfl)) ?_
  rintro ⟨⟨k, h⟩, hk, hh⟩
  dsimp only at hk hh ⊢
  by_cases hk2 : k = l.length
  · subst hk2
    have q : ¬ (l.length : Int) < l.length := by omega
    rw [List.take_of_length_le (Nat.le_refl _)] at hh ⊢
    repeat (first | refine N.seq ?_ | refine N.blk ?_ | refine W.seq rfl ?_ | refine W.block rfl ?_ | refine W.skip rfl ?_ | refine W.ret rfl ?_ | refine N.nil ?_ | refine N.loop ?_ | refine W.exit rfl ?_ | refine X.seq ?_ | refine X.loop ?_ | refine X.hit ?_ | refine X.pass (by decide) ?_ | refine W.condT rfl (by rfl) ?_ | refine W.condF rfl (by rfl) ?_ | refine W.region tm no_specs rfl (by conv => lhs; simp [q, hh, decB]) fun _ => ?_ | refine W.regionD tm no_specs rfl (by conv => lhs; simp [q, hh, decB]) (by conv => lhs; simp) (by kernel_rfl) fun _ => ?_)
    first | exact Ret.dataR rfl (by conv => lhs; simp [hh, decB]) (by conv => lhs; simp [hh, decB]) (by first | rfl | simp [inlT, inlV]) | fail "no return here"
  · have hlt : k < l.length := by omega
    have q : (k : Int) < l.length := by omega
    have hw := w64_succ hlt (Nat.le_trans hl (by decide))
    have hsucc := dec_take_succ l hlt
    have hdl : (dec (l.take k)).length ≤ k := by have := dec_len (l.take k); rw [List.length_take] at this; omega
    have c1 : (dec (l.take k)).length + 1 ≤ 200 := by omega
    have c2 : (dec (l.take k)).length ≤ 200 := by omega
    have hmin : (2 : Int) ^ min 1 IntKind.i64.bits = 2 := by decide
    by_cases hc : 1 ≤ l[k].c.fdiv 2
    · rw [if_pos (by exact hc)] at hsucc
      repeat (first | refine N.seq ?_ | refine N.blk ?_ | refine W.seq rfl ?_ | refine W.block rfl ?_ | refine W.skip rfl ?_ | refine W.ret rfl ?_ | refine N.nil ?_ | refine N.loop ?_ | refine W.exit rfl ?_ | refine X.seq ?_ | refine X.loop ?_ | refine X.hit ?_ | refine X.pass (by decide) ?_ | refine W.condT rfl (by rfl) ?_ | refine W.condF rfl (by rfl) ?_ | refine W.region tm no_specs rfl (by conv => lhs; simp [q, hlt, Tk.cells, hw, hc, hmin, hh, decB, capM c2, capB c1, maxLen]) fun _ => ?_ | refine W.regionD tm no_specs rfl (by conv => lhs; simp [q, hlt, Tk.cells, hw, hc, hmin, hh, decB, capM c2, capB c1, maxLen]) (by conv => lhs; simp) (by kernel_rfl) fun _ => ?_)
      refine ⟨⟨(k + 1, _), by dsimp only; omega, ?_⟩, by dsimp only; omega, AS.le_of rfl ⟨by rw [hsucc]; simp [lk], rfl, rfl, rfl, trivial⟩ (fun _ => rfl)⟩
      dsimp only
      rw [hsucc]
      simp [lk_st, decB, hf, Tk.cells]
    · rw [if_neg (by exact hc)] at hsucc
      repeat (first | refine N.seq ?_ | refine N.blk ?_ | refine W.seq rfl ?_ | refine W.block rfl ?_ | refine W.skip rfl ?_ | refine W.ret rfl ?_ | refine N.nil ?_ | refine N.loop ?_ | refine W.exit rfl ?_ | refine X.seq ?_ | refine X.loop ?_ | refine X.hit ?_ | refine X.pass (by decide) ?_ | refine W.condT rfl (by rfl) ?_ | refine W.condF rfl (by rfl) ?_ | refine W.region tm no_specs rfl (by conv => lhs; simp [q, hlt, Tk.cells, hw, hc, hmin, hh, decB]) fun _ => ?_ | refine W.regionD tm no_specs rfl (by conv => lhs; simp [q, hlt, Tk.cells, hw, hc, hmin, hh, decB]) (by conv => lhs; simp) (by kernel_rfl) fun _ => ?_)
      refine ⟨⟨(k + 1, _), by dsimp only; omega, ?_⟩, by dsimp only; omega, AS.le_of rfl ⟨by rw [hsucc]; rfl, rfl, rfl, rfl, trivial⟩ (fun _ => rfl)⟩
      dsimp only
      rw [hsucc]
      simp [lk_st, hh]
      try rfl
end Go.Abs.Gr
