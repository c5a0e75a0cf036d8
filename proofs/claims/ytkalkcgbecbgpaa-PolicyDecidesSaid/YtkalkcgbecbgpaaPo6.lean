/- Carrying out a plan. Conditions: none. -/
import Derived.Test.YtkalkcgbecbgpaaPo5
import Derived.Test.YtkalkcgbecbgpaaPo4
namespace Go.Abs.Po
open Go Go.Proofs Go.Abs
set_option maxRecDepth 100000
set_option maxHeartbeats 4000000
set_option linter.unusedSimpArgs false
set_option linter.unusedVariables false
def car (pl : List Pl) (ps : List Pn) : List Pl := ps.foldl (fun T x => asg T x.p x.t) pl
theorem car_len (ps : List Pn) : ∀ pl : List Pl, (car pl ps).length ≤ pl.length + ps.length := by
  induction ps with
  | nil => intro pl; simp [car]
  | cons x r ih =>
    intro pl
    have h1 := ih (asg pl x.p x.t)
    have h2 := asg_len pl x.p x.t
    simp only [car, List.foldl_cons] at h1 ⊢
    rw [List.length_cons]
    omega
theorem pnV_inj {a b : List Pn} (h : pnV a = pnV b) : a = b := by
  unfold pnV at h
  split at h <;> split at h
  · simp_all
  · cases h
  · cases h
  · simp only [AV.list.injEq, true_and] at h
    exact map_inj Pn.inj h
theorem pnV_weak (a : List Pn) : AV.weaker (pnV a) (.list 3 (a.map Pn.cells)) := by
  unfold pnV
  split
  · rename_i h
    subst h
    exact AV.weaker_nils 3
  · exact AV.weaker_refl _
structure Cx where
  v : Vt
  ps : List Pn
  h : v.pl.length + ps.length ≤ 190
def encCx (x : Cx) : List AV := [x.v.av, pnV x.ps]
theorem encCx_inj {β : Type} {f : Cx → β} : ∀ x y, encCx x = encCx y → f x = f y := fun x y h => by
  obtain ⟨v, ps, h1⟩ := x
  obtain ⟨v', ps', h1'⟩ := y
  simp only [encCx, List.cons.injEq, and_true] at h
  have := Vt.inj _ _ h.1
  subst this
  have := pnV_inj h.2
  subst this
  rfl
noncomputable def carS : SpecFn := mkS encCx fun x => (.agg (vA x.v.view x.v.nodes (plL (car x.v.pl x.ps))), [])
theorem carS_eq (view : Int) (nodes : List Int) (P : AV) (pl : List Pl) (ps : List Pn) (hP : IsP P pl) (hn : nodes.length ≤ 8) (hl : pl.length + ps.length ≤ 190) :
    carS [.agg [.int .i64 view, .list 1 (nodes.map ic), .nils, P, .nils, .nils], pnV ps] [] = some (.agg [.int .i64 view, .list 1 (nodes.map ic), .nils, .list 2 ((car pl ps).map Pl.cells), .nils, .nils], []) :=
  mkS_eq (enc := encCx) encCx_inj ⟨⟨view, nodes, P, pl, hP, hn, by omega⟩, ps, hl⟩
noncomputable def ca_specs : NL Spec := [(43, ⟨1, dup2S⟩), (44, ⟨1, asgS⟩)]
theorem ca_specs_ok : ∀ p ∈ ca_specs, FnC Try.prog p.1 p.2.fn := by
  simp only [ca_specs, List.mem_cons, List.not_mem_nil, or_false]
  rintro p (rfl | rfl)
  · exact dup2_ok
  · exact asg_ok
attribute [local simp] runL stepA execA_eq skipA run_ret run_fail run_get run_put run_asm num lk st lk_st putA AS.ev ofValue ofFlat mkv splice fieldAddrA buildA fillA runF gdst pickA unOpA extractA resVs resV pack frzT inlT inlV frzV frzVs frzL frz1 newId AV.cellsOf AV.flat AV.flat2 specOf loadA_runR capA copyA copyTo srcA sliceCA slice3A appendZA extA AV.place lenCA clearA clearTo expG expB3 List.zipWith renL fF handB renB AV.ren backF backL idsOf freshIds refsL refsB AV.refs List.range List.range.loop placesA sliceRows rowsOf convertA sliceArrA sliceA bndA nilCheckA arrayAtA mmA lookupA keyOf keyOK findA keyEqA foundA makeMapA mapUpdateA appendA rowsA indexA partA fieldA retE2 frqT frqV frqVs frqL frq1 reachE blkRefs outE nodupE firstE seqO expB2 expF instA take_len_map List.findIdx?_cons List.findIdx?_nil ca_specs
theorem car_ok : FnC Try.prog 16 carS := by
  refine FnC.walk 16 (fn := Try.f16) Try.func16 rfl (by kernel_rfl) fun x => ?_
  obtain ⟨⟨view, nodes, P, pl, hP, hn, hl⟩, ps, hps⟩ := x
  dsimp only at hps ⊢
  refine W.weak (σ' := ⟨23, [(0, .agg (vA view nodes (.list 2 (pl.map Pl.cells)))), (1, .list 3 (ps.map Pn.cells))], []⟩) (AS.le_of' rfl ⟨⟨_, rfl, vA_weak hP.weak⟩, ⟨_, rfl, pnV_weak ps⟩, trivial⟩ (fun _ => rfl)) ?_
  clear hP P
  have hd := dup2S_eq view nodes pl hn hl
  repeat (first | refine N.seq ?_ | refine N.blk ?_ | refine W.seq rfl ?_ | refine W.block rfl ?_ | refine W.skip rfl ?_ | refine W.ret rfl ?_ | refine N.nil ?_ | refine N.loop ?_ | refine W.exit rfl ?_ | refine X.seq ?_ | refine X.loop ?_ | refine X.hit ?_ | refine X.pass (by decide) ?_ | refine W.condT rfl (by rfl) ?_ | refine W.condF rfl (by rfl) ?_ | refine W.region tm ca_specs_ok rfl (by conv => lhs; simp [vA, hd]) fun _ => ?_ | refine W.regionD tm ca_specs_ok rfl (by conv => lhs; simp [vA, hd]) (by conv => lhs; simp) (by kernel_rfl) fun _ => ?_)
  refine W.loop rfl (ι := { q : Nat × NL ABlk // q.1 ≤ ps.length ∧ lk q.2 48 = some (vB view nodes (plL (car pl (ps.take q.1)))) ∧ lk q.2 80 = some zB })
    (fun q => ⟨23, [(2, .ptr 48 1 0 0), (4, .ptr 80 1 0 0), (9, .list 3 (ps.map Pn.cells)), (10, .int .i64 ps.length), (11, .int .i64 (q.1.1 : Nat))], q.1.2⟩) (fun q => ps.length - q.1.1)
    ⟨(0, _), by simp, by rfl, by rfl⟩ (AS.le_of rfl ⟨rfl, rfl, rfl, rfl, rfl, trivial⟩ (fun _ => rfl)) ?_
  rintro ⟨⟨k, h⟩, hk, h1, h2⟩
  dsimp only at hk h1 h2 ⊢
  by_cases hk2 : k = ps.length
  · subst hk2
    rw [List.take_length] at h1
    repeat (first | refine N.seq ?_ | refine N.blk ?_ | refine W.seq rfl ?_ | refine W.block rfl ?_ | refine W.skip rfl ?_ | refine W.ret rfl ?_ | refine N.nil ?_ | refine N.loop ?_ | refine W.exit rfl ?_ | refine X.seq ?_ | refine X.loop ?_ | refine X.hit ?_ | refine X.pass (by decide) ?_ | refine W.condT rfl (by rfl) ?_ | refine W.condF rfl (by rfl) ?_ | refine W.region tm ca_specs_ok rfl (by conv => lhs; simp [h1, h2, vA, vB, zB, plL]) fun _ => ?_ | refine W.regionD tm ca_specs_ok rfl (by conv => lhs; simp [h1, h2, vA, vB, zB, plL]) (by conv => lhs; simp) (by kernel_rfl) fun _ => ?_)
    simp only [vA, plL]
    first | exact Ret.dataR rfl (by conv => lhs; simp) (by conv => lhs; simp) (by first | rfl | simp [inlT, inlV]) | fail "no return here"
  · have hlt : k < ps.length := by omega
    obtain ⟨x, hx⟩ := get_lt hlt
    have q1 : (k : Int) < ps.length := by omega
    have q2 : ¬ ps.length ≤ k := by omega
    have hw := w64_succ hlt (capX (by omega))
    have hst : car pl (ps.take (k + 1)) = asg (car pl (ps.take k)) x.p x.t := by
      rw [car, List.take_add_one, hx]
      simp [car]
    have hcl := car_len (ps.take k) pl
    have htl : (ps.take k).length ≤ k := by simp; omega
    generalize car pl (ps.take k) = T at hst hcl h1
    have hA := asgS_eq view nodes (.list 2 (T.map Pl.cells)) T x.p x.t (isP_plL T) hn (by omega)
    repeat (first | refine N.seq ?_ | refine N.blk ?_ | refine W.seq rfl ?_ | refine W.block rfl ?_ | refine W.skip rfl ?_ | refine W.ret rfl ?_ | refine N.nil ?_ | refine N.loop ?_ | refine W.exit rfl ?_ | refine X.seq ?_ | refine X.loop ?_ | refine X.hit ?_ | refine X.pass (by decide) ?_ | refine W.condT rfl (by rfl) ?_ | refine W.condF rfl (by rfl) ?_ | refine W.region tm ca_specs_ok rfl (by conv => lhs; simp [h1, h2, vA, vB, zB, plL, q1, q2, hx, hw, Pn.cells, hA]) fun _ => ?_ | refine W.regionD tm ca_specs_ok rfl (by conv => lhs; simp [h1, h2, vA, vB, zB, plL, q1, q2, hx, hw, Pn.cells, hA]) (by conv => lhs; simp) (by kernel_rfl) fun _ => ?_)
    exact ⟨⟨(k + 1, _), hlt, by dsimp only; rw [hst]; simp [lk_st, vB, vA, plL], by simp [lk_st, h2, zB]⟩, by dsimp only; omega, AS.le_of rfl ⟨rfl, rfl, rfl, rfl, rfl, trivial⟩ (fun _ => rfl)⟩
end Go.Abs.Po
namespace Go.Abs.Po
open Go Go.Proofs Go.Abs
set_option maxRecDepth 100000
set_option maxHeartbeats 4000000
set_option linter.unusedSimpArgs false
set_option linter.unusedVariables false
def mrow (x : Int × Int) : List AV := [.int .i64 x.1, .int .i64 x.2]
def fM : List (Int × Int) → Int → Nat → Option (Nat × Int)
  | [], _, _ => none
  | (k, v) :: r, n, i => if n = k then some (i, v) else fM r n (i + 1)
def incM : List (Int × Int) → Int → List (Int × Int)
  | [], n => [(n, 1)]
  | (k, v) :: r, n => if n = k then (n, v + 1) :: r else (k, v) :: incM r n
def getM : List (Int × Int) → Int → Int
  | [], _ => 0
  | (k, v) :: r, n => if n = k then v else getM r n
theorem findA_fM (n : Int) : ∀ (M : List (Int × Int)) (i : Nat), findA (.int .i64) (.int .i64 n) (M.map mrow) i = some ((fM M n i).map fun y => (y.1, AV.int .i64 y.2))
  | [], i => rfl
  | (k, v) :: r, i => by
    simp only [List.map_cons, findA, mrow, keyEqA, fM, if_true]
    by_cases h : n = k
    · simp [h]
    · simp only [h, decide_false, if_false]
      exact findA_fM n r (i + 1)
theorem fM_some : ∀ {M : List (Int × Int)} {n : Int} {i j : Nat} {v : Int}, fM M n i = some (j, v) → i ≤ j ∧ j - i < M.length ∧ getM M n = v ∧ M.set (j - i) (n, v + 1) = incM M n
  | [], n, i, j, v, h => by simp [fM] at h
  | (k, w) :: r, n, i, j, v, h => by
    simp only [fM] at h
    split at h
    · rename_i e
      simp only [Option.some.injEq, Prod.mk.injEq] at h
      obtain ⟨rfl, rfl⟩ := h
      simp [getM, incM, e]
    · rename_i e
      obtain ⟨h1, h2, h3, h4⟩ := fM_some h
      have hj : j - i = (j - (i + 1)) + 1 := by omega
      refine ⟨by omega, by simp only [List.length_cons]; omega, by simp only [getM, if_neg e]; exact h3, ?_⟩
      rw [hj, List.set_cons_succ, h4]
      simp only [incM, if_neg e]
theorem fM_none : ∀ {M : List (Int × Int)} {n : Int} {i : Nat}, fM M n i = none → getM M n = 0 ∧ M ++ [(n, 1)] = incM M n
  | [], n, i, h => by simp [getM, incM]
  | (k, w) :: r, n, i, h => by
    simp only [fM] at h
    split at h
    · cases h
    · rename_i e
      obtain ⟨h1, h2⟩ := fM_none h
      simp [getM, incM, e, h1, h2]
theorem getM_inc (n m : Int) : ∀ M : List (Int × Int), getM (incM M n) m = getM M m + if n = m then 1 else 0
  | [] => by
    by_cases e : n = m
    · subst e; simp [incM, getM]
    · simp [incM, getM, e, Ne.symm e]
  | (k, v) :: r => by
    have ih := getM_inc n m r
    by_cases e : n = k
    · subst e
      by_cases e2 : m = n
      · subst e2; simp [incM, getM]
      · simp [incM, getM, e2, Ne.symm e2]
    · by_cases e2 : m = k
      · subst e2; simp [incM, getM, e]
      · simp only [incM, getM, if_neg e, if_neg e2, ih]
theorem getM_cases (M : List (Int × Int)) (n : Int) : (∃ i, fM M n 0 = some (i, getM M n) ∧ i < M.length ∧ M.set i (n, getM M n + 1) = incM M n) ∨ (fM M n 0 = none ∧ getM M n = 0 ∧ M ++ [(n, 1)] = incM M n) := by
  cases h : fM M n 0 with
  | none => exact .inr ⟨rfl, fM_none h⟩
  | some p =>
    obtain ⟨j, v⟩ := p
    obtain ⟨_, h2, h3, h4⟩ := fM_some h
    subst h3
    exact .inl ⟨j, rfl, by simpa using h2, by simpa using h4⟩
def cM (pl : List Pl) : List (Int × Int) := pl.foldl (fun M x => incM M x.n) []
theorem cM_get (pl : List Pl) (m : Int) : getM (cM pl) m = cnt pl m := by
  have : ∀ (l : List Pl) (M : List (Int × Int)), getM (l.foldl (fun M x => incM M x.n) M) m = getM M m + cnt l m := by
    intro l
    induction l with
    | nil => intro M; simp [cnt]
    | cons x r ih =>
      intro M
      rw [List.foldl_cons, ih, getM_inc]
      simp only [cnt]
      split <;> simp <;> omega
  simpa [cM, getM] using this pl []
theorem cM_step {pl : List Pl} {k : Nat} {x : Pl} (h : pl[k]? = some x) : cM (pl.take (k + 1)) = incM (cM (pl.take k)) x.n := by
  rw [cM, List.take_add_one, h]
  simp [cM]
def mB (g : Nat) (M : List (Int × Int)) : ABlk := { gen := g, kind := 3, elem := 0, size := 0, inl := false, rows := M.map mrow }
theorem ren_mrow (f : Nat → Nat → Option (Nat × Nat)) (M : List (Int × Int)) : List.map (fun r => renL f r) (M.map mrow) = M.map mrow := by
  rw [List.map_map]
  apply List.map_congr_left
  intro x _
  simp [mrow, renL, AV.ren]
theorem ren_comp (f : Nat → Nat → Option (Nat × Nat)) : renL f ∘ mrow = mrow := by
  funext x
  simp [mrow, renL, AV.ren]
theorem refs_mrow (M : List (Int × Int)) : List.flatMap refsL (M.map mrow) = [] := by
  rw [List.flatMap_eq_nil_iff]
  intro r hr
  obtain ⟨x, _, rfl⟩ := List.mem_map.1 hr
  simp [mrow, refsL, AV.refs]
def encWv (x : Wt) : List AV := [.agg (vA x.view x.nodes (.list 2 (x.pl.map Pl.cells)))]
attribute [local simp] runL stepA execA_eq skipA run_ret run_fail run_get run_put run_asm num lk st lk_st putA AS.ev ofValue ofFlat mkv splice fieldAddrA buildA fillA runF gdst pickA unOpA extractA resVs resV pack frzT inlT inlV frzV frzVs frzL frz1 newId AV.cellsOf AV.flat AV.flat2 specOf loadA_runR capA copyA copyTo srcA sliceCA slice3A appendZA extA AV.place lenCA clearA clearTo expG expB3 List.zipWith renL fF handB renB AV.ren backF backL idsOf freshIds refsL refsB AV.refs List.range List.range.loop placesA sliceRows rowsOf convertA sliceArrA sliceA bndA nilCheckA arrayAtA mmA lookupA keyOf keyOK findA keyEqA foundA makeMapA mapUpdateA appendA rowsA indexA partA fieldA retE2 frqT frqV frqVs frqL frq1 reachE blkRefs outE nodupE firstE seqO expB2 expF instA take_len_map List.findIdx?_cons List.findIdx?_nil
noncomputable def cmS : SpecFn := mkS2 encWt fun x => (.amap 0 0, [mB 0 (cM x.pl)])
theorem cmS_eq (view : Int) (nodes : List Int) (pl : List Pl) (hn : nodes.length ≤ 8) (hl : pl.length ≤ 200) :
    cmS [.agg [.int .i64 view, .list 1 (nodes.map ic), .nils, .list 2 (pl.map Pl.cells), .nils, .nils]] [] = some (.amap 0 0, [mB 0 (cM pl)]) := mkS2_eq (enc := encWt) encWt_inj ⟨view, nodes, pl, hn, hl⟩
theorem cm_ok : FnC Try.prog 69 cmS := by
  refine FnC.walkB 69 (fn := Try.f69) Try.func69 rfl (by kernel_rfl) (fun x b hb => by simp [encWt] at hb) fun x => ?_
  obtain ⟨view, nodes, pl, hn, hl⟩ := x
  change W _ (RetB _ _ 0 (.amap 0 0) [mB 0 (cM pl)]) _ _ ⟨21, [(0, .agg (vA view nodes (.list 2 (pl.map Pl.cells))))], []⟩
  repeat (first | refine N.seq ?_ | refine N.blk ?_ | refine W.seq rfl ?_ | refine W.block rfl ?_ | refine W.skip rfl ?_ | refine W.ret rfl ?_ | refine N.nil ?_ | refine N.loop ?_ | refine W.exit rfl ?_ | refine X.seq ?_ | refine X.loop ?_ | refine X.hit ?_ | refine X.pass (by decide) ?_ | refine W.condT rfl (by rfl) ?_ | refine W.condF rfl (by rfl) ?_ | refine W.region tm no_specs rfl (by conv => lhs; simp [vA]) fun _ => ?_ | refine W.regionD tm no_specs rfl (by conv => lhs; simp [vA]) (by conv => lhs; simp) (by kernel_rfl) fun _ => ?_)
  refine W.loop rfl (ι := { q : Nat × NL ABlk // q.1 ≤ pl.length ∧ lk q.2 112 = some (mB 1 (cM (pl.take q.1))) })
    (fun q => ⟨21, [(3, .amap 112 1), (8, .list 2 (pl.map Pl.cells)), (9, .int .i64 pl.length), (10, .int .i64 (q.1.1 : Nat))], q.1.2⟩) (fun q => pl.length - q.1.1)
    ⟨(0, _), by simp, by rfl⟩ (AS.le_of rfl ⟨rfl, rfl, rfl, rfl, trivial⟩ (fun _ => rfl)) ?_
  rintro ⟨⟨k, h⟩, hk, h1⟩
  dsimp only at hk h1 ⊢
  by_cases hk2 : k = pl.length
  · subst hk2
    rw [List.take_length] at h1
    repeat (first | refine N.seq ?_ | refine N.blk ?_ | refine W.seq rfl ?_ | refine W.block rfl ?_ | refine W.skip rfl ?_ | refine W.ret rfl ?_ | refine N.nil ?_ | refine N.loop ?_ | refine W.exit rfl ?_ | refine X.seq ?_ | refine X.loop ?_ | refine X.hit ?_ | refine X.pass (by decide) ?_ | refine W.condT rfl (by rfl) ?_ | refine W.condF rfl (by rfl) ?_ | refine W.region tm no_specs rfl (by conv => lhs; simp [h1, mB]) fun _ => ?_ | refine W.regionD tm no_specs rfl (by conv => lhs; simp [h1, mB]) (by conv => lhs; simp) (by kernel_rfl) fun _ => ?_)
    simp only [mB]
    first | exact retE2_ok false (by conv => lhs; simp [retE2, frqT, frqV, frqVs, frqL, frq1, reachE, blkRefs, outE, nodupE, firstE, seqO, expB2, expF, refsB, refsL, AV.refs, AV.ren, renL, renB, List.range, List.range.loop, resVs, resV, pack, h1, mB, ren_mrow, ren_comp, refs_mrow]) | fail "no return here"
  · have hlt : k < pl.length := by omega
    obtain ⟨x, hx⟩ := get_lt hlt
    have q1 : (k : Int) < pl.length := by omega
    have q2 : ¬ pl.length ≤ k := by omega
    have hw := w64_succ hlt (capX hl)
    have hst := cM_step hx
    have hgb : getM (cM (pl.take k)) x.n ≤ 200 := by
      rw [cM_get]
      have := cnt_le (pl.take k) x.n
      simp at this; omega
    have hg0 : 0 ≤ getM (cM (pl.take k)) x.n := by rw [cM_get]; omega
    generalize cM (pl.take k) = M at h1 hst hgb hg0
    have hf := findA_fM x.n M 0
    have hwg : IntKind.i64.wrap (getM M x.n + 1) = getM M x.n + 1 := w64 (by omega) (by omega)
    rcases getM_cases M x.n with ⟨i, e1, e2, e3⟩ | ⟨e1, e2, e3⟩
    · rw [e1] at hf
      simp only [Option.map_some] at hf
      repeat (first | refine N.seq ?_ | refine N.blk ?_ | refine W.seq rfl ?_ | refine W.block rfl ?_ | refine W.skip rfl ?_ | refine W.ret rfl ?_ | refine N.nil ?_ | refine N.loop ?_ | refine W.exit rfl ?_ | refine X.seq ?_ | refine X.loop ?_ | refine X.hit ?_ | refine X.pass (by decide) ?_ | refine W.condT rfl (by rfl) ?_ | refine W.condF rfl (by rfl) ?_ | refine W.region tm no_specs rfl (by conv => lhs; simp [q1, q2, hx, hw, h1, mB, Pl.cells, hf, hwg]) fun _ => ?_ | refine W.regionD tm no_specs rfl (by conv => lhs; simp [q1, q2, hx, hw, h1, mB, Pl.cells, hf, hwg]) (by conv => lhs; simp) (by kernel_rfl) fun _ => ?_)
      refine ⟨⟨(k + 1, _), hlt, by dsimp only; rw [hst, ← e3]; simp [lk_st, mB, mrow]⟩, by dsimp only; omega, AS.le_of rfl ⟨rfl, rfl, rfl, rfl, trivial⟩ (fun _ => rfl)⟩
    · rw [e1] at hf
      simp only [Option.map_none] at hf
      repeat (first | refine N.seq ?_ | refine N.blk ?_ | refine W.seq rfl ?_ | refine W.block rfl ?_ | refine W.skip rfl ?_ | refine W.ret rfl ?_ | refine N.nil ?_ | refine N.loop ?_ | refine W.exit rfl ?_ | refine X.seq ?_ | refine X.loop ?_ | refine X.hit ?_ | refine X.pass (by decide) ?_ | refine W.condT rfl (by rfl) ?_ | refine W.condF rfl (by rfl) ?_ | refine W.region tm no_specs rfl (by conv => lhs; simp [q1, q2, hx, hw, h1, mB, Pl.cells, hf]) fun _ => ?_ | refine W.regionD tm no_specs rfl (by conv => lhs; simp [q1, q2, hx, hw, h1, mB, Pl.cells, hf]) (by conv => lhs; simp) (by kernel_rfl) fun _ => ?_)
      refine ⟨⟨(k + 1, _), hlt, by dsimp only; rw [hst, ← e3]; simp [lk_st, mB, mrow]⟩, by dsimp only; omega, AS.le_of rfl ⟨rfl, rfl, rfl, rfl, trivial⟩ (fun _ => rfl)⟩
/-! ### The loads -/
noncomputable def lc_specs : NL Spec := [(69, ⟨3, cmS⟩)]
theorem lc_specs_ok : ∀ p ∈ lc_specs, FnC Try.prog p.1 p.2.fn := by
  simp only [lc_specs, List.mem_cons, List.not_mem_nil, or_false]
  rintro p rfl
  exact cm_ok
attribute [local simp] lc_specs
noncomputable def countS : SpecFn := mkS encV fun x => (.list 3 ((lds x.nodes x.pl).map Ld.cells), [])
theorem countS_eq (view : Int) (nodes : List Int) (P : AV) (pl : List Pl) (hP : IsP P pl) (hn : nodes.length ≤ 8) (hl : pl.length ≤ 200) :
    countS [.agg [.int .i64 view, .list 1 (nodes.map ic), .nils, P, .nils, .nils]] [] = some (.list 3 ((lds nodes pl).map Ld.cells), []) :=
  mkS_eq (enc := encV) encV_inj (⟨view, nodes, P, pl, hP, hn, hl⟩)
theorem count_ok : FnC Try.prog 45 countS := by
  refine FnC.walk 45 (fn := Try.f45) Try.func45 rfl (by kernel_rfl) fun x => ?_
  obtain ⟨view, nodes, P, pl, hP, hn, hl⟩ := x
  dsimp only
  refine W.weak (σ' := ⟨30, [(0, .agg (vA view nodes (.list 2 (pl.map Pl.cells))))], []⟩) (le_head (vA_weak hP.weak)) ?_
  clear hP P
  have hm := cmS_eq view nodes pl hn hl
  have hget := cM_get pl
  simp only [mB] at hm
  repeat (first | refine N.seq ?_ | refine N.blk ?_ | refine W.seq rfl ?_ | refine W.block rfl ?_ | refine W.skip rfl ?_ | refine W.ret rfl ?_ | refine N.nil ?_ | refine N.loop ?_ | refine W.exit rfl ?_ | refine X.seq ?_ | refine X.loop ?_ | refine X.hit ?_ | refine X.pass (by decide) ?_ | refine W.condT rfl (by rfl) ?_ | refine W.condF rfl (by rfl) ?_ | refine W.region tm lc_specs_ok rfl (by conv => lhs; simp [vA, hm, ren_mrow, ren_comp]) fun _ => ?_ | refine W.regionD tm lc_specs_ok rfl (by conv => lhs; simp [vA, hm, ren_mrow, ren_comp]) (by conv => lhs; simp) (by kernel_rfl) fun _ => ?_)
  refine W.phantom (t := 4) 2000 29 3 true rfl (by rfl) (by decide) ?_
  refine W.loop rfl (ι := { q : Nat × NL ABlk // q.1 ≤ nodes.length ∧ lk q.2 144 = some (mB 1 (cM pl)) ∧ lk q.2 2000 = some (lB q.1 (((lds nodes pl).map Ld.cells).take q.1)) })
    (fun q => ⟨30, [(3, .amap 144 1), (4, .sl 2000 q.1.1 0 q.1.1), (10, .list 1 (nodes.map ic)), (11, .int .i64 nodes.length), (12, .int .i64 (q.1.1 : Nat))], q.1.2⟩) (fun q => nodes.length - q.1.1)
    ⟨(0, _), by simp, by rfl, by rfl⟩ (AS.le_of rfl ⟨rfl, rfl, rfl, rfl, rfl, trivial⟩ (fun _ => rfl)) ?_
  rintro ⟨⟨k, h⟩, hk, h1, h2⟩
  dsimp only at hk h1 h2 ⊢
  by_cases hk2 : k = nodes.length
  · subst hk2
    have hlen : ((lds nodes pl).map Ld.cells).length = nodes.length := by simp [lds]
    rw [List.take_of_length_le (by omega)] at h2
    generalize (lds nodes pl).map Ld.cells = A at hlen h2 ⊢
    have hle : nodes.length ≤ A.length := by omega
    have htk : List.take nodes.length A = A := List.take_of_length_le (by omega)
    repeat (first | refine N.seq ?_ | refine N.blk ?_ | refine W.seq rfl ?_ | refine W.block rfl ?_ | refine W.skip rfl ?_ | refine W.ret rfl ?_ | refine N.nil ?_ | refine N.loop ?_ | refine W.exit rfl ?_ | refine X.seq ?_ | refine X.loop ?_ | refine X.hit ?_ | refine X.pass (by decide) ?_ | refine W.condT rfl (by rfl) ?_ | refine W.condF rfl (by rfl) ?_ | refine W.region tm lc_specs_ok rfl (by conv => lhs; simp) fun _ => ?_ | refine W.regionD tm lc_specs_ok rfl (by conv => lhs; simp) (by conv => lhs; simp) (by kernel_rfl) fun _ => ?_)
    first | exact Ret.dataR rfl (by conv => lhs; simp [h2, lB, hle, htk]) (by conv => lhs; simp [h2, lB, hle, htk]) (by first | rfl | simp [inlT, inlV]) | fail "no return here"
  · have hlt : k < nodes.length := by omega
    obtain ⟨x, hx⟩ := get_lt hlt
    have q1 : (k : Int) < nodes.length := by omega
    have q2 : ¬ nodes.length ≤ k := by omega
    have hw : IntKind.i64.wrap ((k : Int) + 1) = ((k + 1 : Nat) : Int) := w64 (by omega) (by omega)
    have hcl := cnt_le pl x
    have hst : ((lds nodes pl).map Ld.cells).take (k + 1) = ((lds nodes pl).map Ld.cells).take k ++ [(ldOf pl x).cells] := by
      rw [List.take_add_one]
      simp [lds, hx]
    have hkl : (((lds nodes pl).map Ld.cells).take k).length = k := by simp [lds]; omega
    have hw2 : IntKind.i64.wrap (256 * (cnt pl x : Int)) = 256 * (cnt pl x : Int) := w64 (by omega) (by omega)
    generalize hA : ((lds nodes pl).map Ld.cells).take k = A at hst hkl h2
    have hfr := firstRows_full hkl
    have c1 : (k + 1) * 24 ≤ 140737488355328 := by omega
    have c2 : k ≤ 9223372036854775806 := by omega
    have hgx := hget x
    have hf := findA_fM x (cM pl) 0
    generalize cM pl = M at h1 hgx hf
    rcases getM_cases M x with ⟨i, e1, e2, e3⟩ | ⟨e1, e2, e3⟩
    · rw [e1, hgx] at hf
      simp only [Option.map_some] at hf
      repeat (first | refine N.seq ?_ | refine N.blk ?_ | refine W.seq rfl ?_ | refine W.block rfl ?_ | refine W.skip rfl ?_ | refine W.ret rfl ?_ | refine N.nil ?_ | refine N.loop ?_ | refine W.exit rfl ?_ | refine X.seq ?_ | refine X.loop ?_ | refine X.hit ?_ | refine X.pass (by decide) ?_ | refine W.condT rfl (by rfl) ?_ | refine W.condF rfl (by rfl) ?_ | refine W.region tm lc_specs_ok rfl (by conv => lhs; simp [h1, h2, mB, lB, q1, q2, hx, hf, hw, hw2, hfr, hkl, c1, c2, maxLen, ic]) fun _ => ?_ | refine W.regionD tm lc_specs_ok rfl (by conv => lhs; simp [h1, h2, mB, lB, q1, q2, hx, hf, hw, hw2, hfr, hkl, c1, c2, maxLen, ic]) (by conv => lhs; simp) (by kernel_rfl) fun _ => ?_)
      exact ⟨⟨(k + 1, _), hlt, by simp [lk_st, h1, mB], by rw [hst]; simp [lk_st, lB, ldOf, Ld.cells]⟩, by dsimp only; omega, AS.le_of rfl ⟨rfl, rfl, rfl, rfl, rfl, trivial⟩ (fun _ => rfl)⟩
    · have hc0 : cnt pl x = 0 := by omega
      rw [e1] at hf
      simp only [Option.map_none] at hf
      repeat (first | refine N.seq ?_ | refine N.blk ?_ | refine W.seq rfl ?_ | refine W.block rfl ?_ | refine W.skip rfl ?_ | refine W.ret rfl ?_ | refine N.nil ?_ | refine N.loop ?_ | refine W.exit rfl ?_ | refine X.seq ?_ | refine X.loop ?_ | refine X.hit ?_ | refine X.pass (by decide) ?_ | refine W.condT rfl (by rfl) ?_ | refine W.condF rfl (by rfl) ?_ | refine W.region tm lc_specs_ok rfl (by conv => lhs; simp [h1, h2, mB, lB, q1, q2, hx, hf, hw, hfr, hkl, c1, c2, maxLen, ic]) fun _ => ?_ | refine W.regionD tm lc_specs_ok rfl (by conv => lhs; simp [h1, h2, mB, lB, q1, q2, hx, hf, hw, hfr, hkl, c1, c2, maxLen, ic]) (by conv => lhs; simp) (by kernel_rfl) fun _ => ?_)
      exact ⟨⟨(k + 1, _), hlt, by simp [lk_st, h1, mB], by rw [hst]; simp [lk_st, lB, ldOf, Ld.cells, hc0]⟩, by dsimp only; omega, AS.le_of rfl ⟨rfl, rfl, rfl, rfl, rfl, trivial⟩ (fun _ => rfl)⟩
end Go.Abs.Po
namespace Go.Abs.Po
open Go Go.Proofs Go.Abs
set_option maxRecDepth 100000
set_option maxHeartbeats 4000000
set_option linter.unusedSimpArgs false
set_option linter.unusedVariables false
/-- Settling, in so many rounds at most. -/
def setl (nodes : List Int) (gs : List (List Int)) (t : Tm) : Nat → List Pl → Nat → Option (List Pl × Nat)
  | 0, _, _ => none
  | f + 1, pl, n =>
    let ps := dec (lds nodes pl) gs pl t
    if ps = [] then some (pl, n) else if 190 < pl.length + ps.length then none else setl nodes gs t f (car pl ps) (n + 1)
structure Sx where
  v : Vt
  gs : GsI
  t : Tm
  r : List Pl × Nat
  h : setl v.nodes gs.1 t 1000 v.pl 0 = some r
def encSx (x : Sx) : List AV := [x.v.av, .list 1 (x.gs.1.map gL), .agg x.t.cells]
theorem encSx_inj {β : Type} {f : List Pl × Nat → Int → List Int → β} : ∀ x y : Sx, encSx x = encSx y → f x.r x.v.view x.v.nodes = f y.r y.v.view y.v.nodes := fun x y h => by
  obtain ⟨v, gs, t, r, hr⟩ := x
  obtain ⟨v', gs', t', r', hr'⟩ := y
  simp only [encSx, List.cons.injEq, AV.list.injEq, AV.agg.injEq, true_and, and_true] at h
  obtain ⟨h1, h2, h3⟩ := h
  have := Vt.inj _ _ h1; subst this
  have := Subtype.ext (map_inj gL_inj h2); subst this
  have := Tm.inj _ _ h3; subst this
  rw [hr] at hr'
  cases hr'
  rfl
noncomputable def setS : SpecFn := mkS encSx fun x => (.tup [.agg (vA x.v.view x.v.nodes (plL x.r.1)), .int .i64 (x.r.2 : Nat)], [])
theorem setS_eq (view : Int) (nodes : List Int) (P : AV) (pl : List Pl) (hP : IsP P pl) (hn : nodes.length ≤ 8) (hp : pl.length ≤ 200) (gs : List (List Int)) (hg : gs.length ≤ 400) (hg' : ∀ g ∈ gs, g.length ≤ 400) (t : Tm) (r : List Pl × Nat) (hr : setl nodes gs t 1000 pl 0 = some r) :
    setS [.agg [.int .i64 view, .list 1 (nodes.map ic), .nils, P, .nils, .nils], .list 1 (gs.map gL), .agg [.int .i64 t.high, .int .i64 t.low, .int .i64 t.rounds]] [] = some (.tup [.agg [.int .i64 view, .list 1 (nodes.map ic), .nils, .list 2 (r.1.map Pl.cells), .nils, .nils], .int .i64 (r.2 : Nat)], []) :=
  mkS_eq (enc := encSx) (encSx_inj (f := fun r view nodes => (AV.tup [.agg (vA view nodes (plL r.1)), .int .i64 (r.2 : Nat)], ([] : List ABlk)))) ⟨⟨view, nodes, P, pl, hP, hn, hp⟩, ⟨gs, hg, hg'⟩, t, r, hr⟩
noncomputable def se_specs : NL Spec := [(43, ⟨1, dup2S⟩), (45, ⟨1, countS⟩), (12, ⟨1, decS⟩), (16, ⟨1, carS⟩)]
theorem se_specs_ok : ∀ p ∈ se_specs, FnC Try.prog p.1 p.2.fn := by
  simp only [se_specs, List.mem_cons, List.not_mem_nil, or_false]
  rintro p (rfl | rfl | rfl | rfl)
  · exact dup2_ok
  · exact count_ok
  · exact dec_ok
  · exact car_ok
attribute [local simp] runL stepA execA_eq skipA run_ret run_fail run_get run_put run_asm num lk st lk_st putA AS.ev ofValue ofFlat mkv splice fieldAddrA buildA fillA runF gdst pickA unOpA extractA resVs resV pack frzT inlT inlV frzV frzVs frzL frz1 newId AV.cellsOf AV.flat AV.flat2 specOf loadA_runR capA copyA copyTo srcA sliceCA slice3A appendZA extA AV.place lenCA clearA clearTo expG expB3 List.zipWith renL fF handB renB AV.ren backF backL idsOf freshIds refsL refsB AV.refs List.range List.range.loop placesA sliceRows rowsOf convertA sliceArrA sliceA bndA nilCheckA arrayAtA mmA lookupA keyOf keyOK findA keyEqA foundA makeMapA mapUpdateA appendA rowsA indexA partA fieldA retE2 frqT frqV frqVs frqL frq1 reachE blkRefs outE nodupE firstE seqO expB2 expF instA take_len_map List.findIdx?_cons List.findIdx?_nil se_specs
def tmB (t : Tm) : ABlk := { gen := 1, kind := 2, elem := 26, size := 3, inl := false, rows := [t.cells] }
theorem set_ok : FnC Try.prog 18 setS := by
  refine FnC.walk 18 (fn := Try.f18) Try.func18 rfl (by kernel_rfl) fun x => ?_
  obtain ⟨⟨view, nodes, P, pl, hP, hn, hp⟩, ⟨gs, hg, hg'⟩, t, r, hr⟩ := x
  dsimp only at hr ⊢
  refine W.weak (σ' := ⟨28, [(0, .agg (vA view nodes (.list 2 (pl.map Pl.cells)))), (1, .list 1 (gs.map gL)), (2, .agg t.cells)], []⟩) (AS.le_of' rfl ⟨⟨_, rfl, vA_weak hP.weak⟩, ⟨_, rfl, AV.weaker_refl _⟩, ⟨_, rfl, AV.weaker_refl _⟩, trivial⟩ (fun _ => rfl)) ?_
  clear hP P
  have hd := dup2S_eq view nodes pl hn hp
  repeat (first | refine N.seq ?_ | refine N.blk ?_ | refine W.seq rfl ?_ | refine W.block rfl ?_ | refine W.skip rfl ?_ | refine W.ret rfl ?_ | refine N.nil ?_ | refine N.loop ?_ | refine W.exit rfl ?_ | refine X.seq ?_ | refine X.loop ?_ | refine X.hit ?_ | refine X.pass (by decide) ?_ | refine W.condT rfl (by rfl) ?_ | refine W.condF rfl (by rfl) ?_ | refine W.region tm se_specs_ok rfl (by conv => lhs; simp [vA, Tm.cells, hd]) fun _ => ?_ | refine W.regionD tm se_specs_ok rfl (by conv => lhs; simp [vA, Tm.cells, hd]) (by conv => lhs; simp) (by kernel_rfl) fun _ => ?_)
  refine W.loop rfl (ι := { q : Nat × List Pl × Nat × NL ABlk // q.2.1.length ≤ 200 ∧ q.1 + q.2.2.1 ≤ 1000 ∧ setl nodes gs t q.1 q.2.1 q.2.2.1 = some r ∧ lk q.2.2.2 64 = some (vB view nodes (plL q.2.1)) ∧ lk q.2.2.2 96 = some (tmB t) ∧ lk q.2.2.2 112 = some zB })
    (fun q => ⟨28, [(1, .list 1 (gs.map gL)), (3, .ptr 64 1 0 0), (5, .ptr 96 1 0 0), (6, .ptr 112 1 0 0), (8, .int .i64 (q.1.2.2.1 : Nat))], q.1.2.2.2⟩) (fun q => q.1.1)
    ⟨(1000, pl, 0, _), hp, by simp, hr, by rfl, by rfl, by rfl⟩ (AS.le_of rfl ⟨rfl, rfl, rfl, rfl, rfl, trivial⟩ (fun _ => rfl)) ?_
  clear hr hd hp pl
  rintro ⟨⟨f, pl, n, h⟩, hp, hfn, hr, h1, h2, h3⟩
  dsimp only at hp hfn hr h1 h2 h3 ⊢
  match f, hfn, hr with
  | 0, hfn, hr => simp [setl] at hr
  | f + 1, hfn, hr =>
    have hC := countS_eq view nodes (.list 2 (pl.map Pl.cells)) pl (isP_plL pl) hn hp
    have hll : (lds nodes pl).length ≤ 200 := by simp [lds]; omega
    have hD := decS_eq (lds nodes pl) hll gs hg hg' view nodes (.list 2 (pl.map Pl.cells)) pl (isP_plL pl) hn hp t
    simp only [setl] at hr
    by_cases he : dec (lds nodes pl) gs pl t = []
    · rw [if_pos he] at hr
      cases hr
      rw [he] at hD
      simp only [pnV, if_true] at hD
      repeat (first | refine N.seq ?_ | refine N.blk ?_ | refine W.seq rfl ?_ | refine W.block rfl ?_ | refine W.skip rfl ?_ | refine W.ret rfl ?_ | refine N.nil ?_ | refine N.loop ?_ | refine W.exit rfl ?_ | refine X.seq ?_ | refine X.loop ?_ | refine X.hit ?_ | refine X.pass (by decide) ?_ | refine W.condT rfl (by rfl) ?_ | refine W.condF rfl (by rfl) ?_ | refine W.region tm se_specs_ok rfl (by conv => lhs; simp [h1, h2, h3, vA, vB, zB, plL, tmB, Tm.cells, hC, hD]) fun _ => ?_ | refine W.regionD tm se_specs_ok rfl (by conv => lhs; simp [h1, h2, h3, vA, vB, zB, plL, tmB, Tm.cells, hC, hD]) (by conv => lhs; simp) (by kernel_rfl) fun _ => ?_)
      simp only [vA, plL]
      first | exact Ret.dataR rfl (by conv => lhs; simp) (by conv => lhs; simp) (by first | rfl | simp [inlT, inlV]) | fail "no return here"
    · rw [if_neg he] at hr
      split at hr
      · cases hr
      · rename_i h190
        have hK := carS_eq view nodes (.list 2 (pl.map Pl.cells)) pl (dec (lds nodes pl) gs pl t) (isP_plL pl) hn (by omega)
        have hcl := car_len (dec (lds nodes pl) gs pl t) pl
        generalize dec (lds nodes pl) gs pl t = ps at he hr hD hK hcl h190
        simp only [pnV, if_neg he] at hD hK
        have hpl0 : ((ps.length : Int) == 0) = false := beq_eq_false_iff_ne.2 (by
          have : ps.length ≠ 0 := fun h => he (List.eq_nil_of_length_eq_zero h)
          omega)
        have hwn : IntKind.i64.wrap ((n : Int) + 1) = ((n + 1 : Nat) : Int) := w64 (by omega) (by omega)
        repeat (first | refine N.seq ?_ | refine N.blk ?_ | refine W.seq rfl ?_ | refine W.block rfl ?_ | refine W.skip rfl ?_ | refine W.ret rfl ?_ | refine N.nil ?_ | refine N.loop ?_ | refine W.exit rfl ?_ | refine X.seq ?_ | refine X.loop ?_ | refine X.hit ?_ | refine X.pass (by decide) ?_ | refine W.condT rfl (by rfl) ?_ | refine W.condF rfl (by rfl) ?_ | refine W.region tm se_specs_ok rfl (by conv => lhs; simp [h1, h2, h3, vA, vB, zB, plL, tmB, Tm.cells, hC, hD, hK, hpl0, he, hwn]) fun _ => ?_ | refine W.regionD tm se_specs_ok rfl (by conv => lhs; simp [h1, h2, h3, vA, vB, zB, plL, tmB, Tm.cells, hC, hD, hK, hpl0, he, hwn]) (by conv => lhs; simp) (by kernel_rfl) fun _ => ?_)
        exact ⟨⟨(f, car pl ps, n + 1, _), by dsimp only; omega, by dsimp only; omega, hr, by simp [lk_st, vB, vA, plL], by simp [lk_st, h2, tmB, Tm.cells], by simp [lk_st, h3, zB]⟩, by dsimp only; omega, AS.le_of rfl ⟨rfl, rfl, rfl, rfl, rfl, trivial⟩ (fun _ => rfl)⟩
end Go.Abs.Po
namespace Go.Abs.Po
open Go Go.Proofs Go.Abs
set_option maxRecDepth 100000
set_option maxHeartbeats 4000000
set_option linter.unusedSimpArgs false
set_option linter.unusedVariables false
def plS (k : Nat) : List Pl := (List.range k).map fun (i : Nat) => (⟨(i : Int) + 1, if i = 5 then 1 else 0⟩ : Pl)
def gsS (k : Nat) : List (List Int) := (List.range k).map fun (i : Nat) => [(i : Int) + 1]
def tS : Tm := ⟨256, 1, 1⟩
theorem decS1 : dec (lds [0, 1] (plS 6)) (gsS 6) (plS 6) tS = [⟨1, 0, 1⟩] := by kernel_rfl
theorem setS1 : setl [0, 1] (gsS 6) tS 1000 (plS 6) 0 = some ([⟨1, 1⟩, ⟨2, 1⟩, ⟨3, 0⟩, ⟨4, 0⟩, ⟨5, 0⟩, ⟨6, 1⟩], 2) := by kernel_rfl
theorem spr1 : spread (lds [0, 1] [⟨1, 1⟩, ⟨2, 1⟩, ⟨3, 0⟩, ⟨4, 0⟩, ⟨5, 0⟩, ⟨6, 1⟩]) = 0 := by kernel_rfl
theorem asg1 (k : Nat) (h : k < 6) : asg (plS k) (k + 1) (if k = 5 then 1 else 0) = plS (k + 1) := by
  have : k = 0 ∨ k = 1 ∨ k = 2 ∨ k = 3 ∨ k = 4 ∨ k = 5 := by omega
  rcases this with rfl | rfl | rfl | rfl | rfl | rfl <;> rfl
theorem eq62 : eqV Try.prog 9 62 (.agg [.int .u64 1, .int .i64 0, .int .i64 1]) (.agg [.int .u64 1, .int .i64 0, .int .i64 1]) = some true := by kernel_rfl
theorem gsS_succ (k : Nat) : gsS (k + 1) = gsS k ++ [[(k : Int) + 1]] := by simp [gsS, List.range_succ]
theorem gsS_len (k : Nat) : (gsS k).length = k := by simp [gsS]
theorem plS_len (k : Nat) : (plS k).length = k := by simp [plS]
theorem div6 (k : Nat) (h : k < 6) : IntKind.i64.wrap (IntKind.u64.wrap (((k : Int) + 1).tdiv 6)) = if k = 5 then 1 else 0 := by
  have : k = 0 ∨ k = 1 ∨ k = 2 ∨ k = 3 ∨ k = 4 ∨ k = 5 := by omega
  rcases this with rfl | rfl | rfl | rfl | rfl | rfl <;> decide
noncomputable def sa_specs : NL Spec := [(24, ⟨1, asgrS⟩), (10, ⟨1, countrS⟩), (12, ⟨1, decS⟩), (18, ⟨1, setS⟩), (21, ⟨0, spreadS⟩)]
theorem sa_specs_ok : ∀ p ∈ sa_specs, FnC Try.prog p.1 p.2.fn := by
  simp only [sa_specs, List.mem_cons, List.not_mem_nil, or_false]
  rintro p (rfl | rfl | rfl | rfl | rfl)
  · exact asgr_ok
  · exact countr_ok
  · exact dec_ok
  · exact set_ok
  · exact refSpread_ok
attribute [local simp] runL stepA execA_eq skipA run_ret run_fail run_get run_put run_asm num lk st lk_st putA AS.ev ofValue ofFlat mkv splice fieldAddrA buildA fillA runF gdst pickA unOpA extractA resVs resV pack frzT inlT inlV frzV frzVs frzL frz1 newId AV.cellsOf AV.flat AV.flat2 specOf loadA_runR capA copyA copyTo srcA sliceCA slice3A appendZA extA AV.place lenCA clearA clearTo expG expB3 List.zipWith renL fF handB renB AV.ren backF backL idsOf freshIds refsL refsB AV.refs List.range List.range.loop placesA sliceRows rowsOf convertA sliceArrA sliceA bndA nilCheckA arrayAtA mmA lookupA keyOf keyOK findA keyEqA foundA makeMapA mapUpdateA appendA rowsA indexA partA fieldA retE2 frqT frqV frqVs frqL frq1 reachE blkRefs outE nodupE firstE seqO expB2 expF instA take_len_map List.findIdx?_cons List.findIdx?_nil sa_specs eqlA eq62
noncomputable def saneS : SpecFn := mkS (fun _ : Unit => []) fun _ => (.bool true, [])
theorem saneS_eq : saneS [] [] = some (.bool true, []) := mkS_eq (enc := fun _ : Unit => []) (fun _ _ _ => rfl) ()
theorem gsS_few (k : Nat) : ∀ g ∈ gsS k, g.length ≤ 400 := fun g hg => by
  simp only [gsS, List.mem_map] at hg
  obtain ⟨i, _, rfl⟩ := hg
  simp
theorem sane_ok : FnC Try.prog 7 saneS := by
  refine FnC.walk 7 (fn := Try.f7) Try.func7 rfl (by kernel_rfl) fun _ => ?_
  change W _ _ _ _ ⟨59, [], []⟩
  repeat (first | refine N.seq ?_ | refine N.blk ?_ | refine W.seq rfl ?_ | refine W.block rfl ?_ | refine W.skip rfl ?_ | refine W.ret rfl ?_ | refine N.nil ?_ | refine N.loop ?_ | refine W.exit rfl ?_ | refine X.seq ?_ | refine X.loop ?_ | refine X.hit ?_ | refine X.pass (by decide) ?_ | refine W.condT rfl (by rfl) ?_ | refine W.condF rfl (by rfl) ?_ | refine W.region tm sa_specs_ok rfl (by conv => lhs; simp [maxLen]) fun _ => ?_ | refine W.regionD tm sa_specs_ok rfl (by conv => lhs; simp [maxLen]) (by conv => lhs; simp) (by kernel_rfl) fun _ => ?_)
  refine W.frz 8 rfl (by conv => lhs; simp [frqT, frqV, frqVs, frqL, frq1]) ?_
  refine W.phantom (t := 2) 2000 30 1 true rfl (by rfl) (by decide) ?_
  refine W.loop rfl (ι := { q : Nat × AV × AV × NL ABlk // q.1 ≤ 6 ∧ (q.1 = 0 ∧ q.2.1 = .sl 144 1 0 2 ∧ q.2.2.1 = .nils ∨ 0 < q.1 ∧ q.2.1 = .list 1 [[.int .i64 0], [.int .i64 1]] ∧ q.2.2.1 = plL (plS q.1)) ∧
      lk q.2.2.2 144 = some { gen := 1, kind := 1, elem := 3, size := 1, inl := true, rows := [[.int .i64 0], [.int .i64 1]] } ∧
      lk q.2.2.2 32 = some { gen := 1, kind := 2, elem := 38, size := 6, inl := false, rows := [[.int .i64 0, q.2.1, .nils, q.2.2.1, .nils, .nils]] } ∧ lk q.2.2.2 2000 = some (gB q.1 (gsS q.1)) })
    (fun q => ⟨59, [(1, .ptr 32 1 0 0), (2, .sl 2000 q.1.1 0 q.1.1), (3, .int .u64 ((q.1.1 : Int) + 1))], q.1.2.2.2⟩) (fun q => 6 - q.1.1)
    ⟨(0, .sl 144 1 0 2, .nils, _), by simp, by simp, by rfl, by rfl, by rfl⟩ (AS.le_of rfl ⟨rfl, rfl, rfl, trivial⟩ (fun _ => rfl)) ?_
  rintro ⟨⟨k, N, P, h⟩, hk, hNP, h1, h2, h3⟩
  dsimp only at hk hNP h1 h2 h3 ⊢
  by_cases hk6 : k = 6
  · subst hk6
    obtain ⟨_, rfl, rfl⟩ := hNP.resolve_left (by simp)
    have hC := countrS_eq 0 [0, 1] (plL (plS 6)) (plS 6) (isP_plL _) (by simp) (by rw [plS_len]; omega)
    have hD := decS_eq (lds [0, 1] (plS 6)) (by simp [lds]) (gsS 6) (by rw [gsS_len]; omega) (gsS_few 6) 0 [0, 1] (plL (plS 6)) (plS 6) (isP_plL _) (by simp) (by rw [plS_len]; omega) tS
    have hS := setS_eq 0 [0, 1] (plL (plS 6)) (plS 6) (isP_plL _) (by simp) (by rw [plS_len]; omega) (gsS 6) (by rw [gsS_len]; omega) (gsS_few 6) tS _ setS1
    have hC2 := countrS_eq 0 [0, 1] (plL [⟨1, 1⟩, ⟨2, 1⟩, ⟨3, 0⟩, ⟨4, 0⟩, ⟨5, 0⟩, ⟨6, 1⟩]) [⟨1, 1⟩, ⟨2, 1⟩, ⟨3, 0⟩, ⟨4, 0⟩, ⟨5, 0⟩, ⟨6, 1⟩] (isP_plL _) (by simp) (by simp)
    have hP := spreadS_eq (lds [0, 1] [⟨1, 1⟩, ⟨2, 1⟩, ⟨3, 0⟩, ⟨4, 0⟩, ⟨5, 0⟩, ⟨6, 1⟩])
    rw [spr1] at hP
    rw [decS1] at hD
    simp only [pnV, reduceCtorEq, if_false, ic, List.map_cons, List.map_nil, plL, Pn.cells, tS, Pl.cells] at hC hD hS hC2
    have q1 : ¬ ((6 : Nat) : Int) + 1 ≤ 6 := by omega
    have tkl : List.take 6 ((gsS 6).map gL) = (gsS 6).map gL := List.take_of_length_le (by simp [gsS_len])
    have tkl2 : 6 ≤ (gsS 6).length := by rw [gsS_len]; omega
    generalize lds [0, 1] (plS 6) = L1 at hC hD
    generalize lds [0, 1] [⟨1, 1⟩, ⟨2, 1⟩, ⟨3, 0⟩, ⟨4, 0⟩, ⟨5, 0⟩, ⟨6, 1⟩] = L2 at hC2 hP
    generalize plS 6 = P6 at *
    generalize gsS 6 = G6 at *
    repeat (first | refine N.seq ?_ | refine N.blk ?_ | refine W.seq rfl ?_ | refine W.block rfl ?_ | refine W.skip rfl ?_ | refine W.ret rfl ?_ | refine N.nil ?_ | refine N.loop ?_ | refine W.exit rfl ?_ | refine X.seq ?_ | refine X.loop ?_ | refine X.hit ?_ | refine X.pass (by decide) ?_ | refine W.condT rfl (by rfl) ?_ | refine W.condF rfl (by rfl) ?_ | refine W.region tm sa_specs_ok rfl (by conv => lhs; simp [h1, h2, h3, gB, q1, hC, hD, hS, hC2, hP, tkl, tkl2, plL]) fun _ => ?_ | refine W.regionD tm sa_specs_ok rfl (by conv => lhs; simp [h1, h2, h3, gB, q1, hC, hD, hS, hC2, hP, tkl, tkl2, plL]) (by conv => lhs; simp) (by kernel_rfl) fun _ => ?_)
    first | exact Ret.dataR rfl (by conv => lhs; simp) (by conv => lhs; simp) (by first | rfl | simp [inlT, inlV]) | fail "no return here"
  · have hlt : k < 6 := by omega
    have q1 : (k : Int) + 1 ≤ 6 := by omega
    have hA1 := asg1 k hlt
    have hw : IntKind.u64.wrap ((k : Int) + 1 + 1) = (k : Int) + 1 + 1 := wu64 (by omega) (by omega)
    have hg1 := gsS_succ k
    have hgl := gsS_len k
    have hpl : (plS k).length ≤ 200 := by rw [plS_len]; omega
    have hfr : firstRows k ((gsS k).map gL) = (gsS k).map gL := firstRows_full (by simpa using hgl)
    have c1 : (k + 1) * 24 ≤ 140737488355328 := by omega
    have c2 : k ≤ 9223372036854775806 := by omega
    have h0k : IntKind.u64.wrap (k : Int) = k := wu64 (by omega) (by omega)
    have hdv := div6 k hlt
    generalize (if k = 5 then (1 : Int) else 0) = n5 at hA1 hdv
    have hst : ∀ g, lk (st h 2000 g) 2000 = some g := fun g => by simp [lk_st]
    rcases hNP with ⟨rfl, rfl, rfl⟩ | ⟨hk0, rfl, rfl⟩
    · have hA := asgrS_eq 0 [0, 1] .nils [] 1 n5 (.inr ⟨rfl, rfl⟩) (by simp) (by simp)
      have hA2 : asg [] 1 n5 = plS 1 := hA1
      have hdv0 : IntKind.i64.wrap (IntKind.u64.wrap 0) = n5 := hdv
      simp only [ic, List.map_cons, List.map_nil, hA2] at hA
      repeat (first | refine N.seq ?_ | refine N.blk ?_ | refine W.seq rfl ?_ | refine W.block rfl ?_ | refine W.skip rfl ?_ | refine W.ret rfl ?_ | refine N.nil ?_ | refine N.loop ?_ | refine W.exit rfl ?_ | refine X.seq ?_ | refine X.loop ?_ | refine X.hit ?_ | refine X.pass (by decide) ?_ | refine W.condT rfl (by rfl) ?_ | refine W.condF rfl (by rfl) ?_ | refine W.region tm sa_specs_ok rfl (by conv => lhs; simp [h1, h2, h3, gB, hA, hdv0, hgl, hfr, maxLen]) fun _ => ?_ | refine W.regionD tm sa_specs_ok rfl (by conv => lhs; simp [h1, h2, h3, gB, hA, hdv0, hgl, hfr, maxLen]) (by conv => lhs; simp) (by kernel_rfl) fun _ => ?_)
      exact ⟨⟨(1, .list 1 [[.int .i64 0], [.int .i64 1]], plL (plS 1), _), by simp, .inr ⟨by simp, rfl, rfl⟩, by simp [lk_st, h1], by simp [lk_st, plL], by rw [hg1]; simp [lk_st, gB, gL, uc]⟩, by simp, AS.le_of rfl ⟨rfl, rfl, rfl, trivial⟩ (fun _ => rfl)⟩
    · have hA := asgrS_eq 0 [0, 1] (plL (plS k)) (plS k) ((k : Int) + 1) n5 (isP_plL _) (by simp) hpl
      simp only [ic, List.map_cons, List.map_nil, hA1, plL] at hA
      repeat (first | refine N.seq ?_ | refine N.blk ?_ | refine W.seq rfl ?_ | refine W.block rfl ?_ | refine W.skip rfl ?_ | refine W.ret rfl ?_ | refine N.nil ?_ | refine N.loop ?_ | refine W.exit rfl ?_ | refine X.seq ?_ | refine X.loop ?_ | refine X.hit ?_ | refine X.pass (by decide) ?_ | refine W.condT rfl (by rfl) ?_ | refine W.condF rfl (by rfl) ?_ | refine W.region tm sa_specs_ok rfl (by conv => lhs; simp [h1, h2, h3, gB, hA, hdv, hgl, hfr, maxLen, q1, hw, c1, c2, plL]) fun _ => ?_ | refine W.regionD tm sa_specs_ok rfl (by conv => lhs; simp [h1, h2, h3, gB, hA, hdv, hgl, hfr, maxLen, q1, hw, c1, c2, plL]) (by conv => lhs; simp) (by kernel_rfl) fun _ => ?_)
      exact ⟨⟨(k + 1, .list 1 [[.int .i64 0], [.int .i64 1]], plL (plS (k + 1)), _), by dsimp only; omega, .inr ⟨by dsimp only; omega, rfl, rfl⟩, by simp [lk_st, h1], by simp [lk_st, plL], by dsimp only; rw [hg1]; simp [lk_st, gB, gL, uc]⟩, by dsimp only; omega, AS.le_of rfl ⟨rfl, rfl, by simp [lk], trivial⟩ (fun _ => rfl)⟩
end Go.Abs.Po
namespace Go.Abs.Po
open Go Go.Proofs Go.Abs
set_option maxRecDepth 100000
set_option linter.unusedSimpArgs false
set_option linter.unusedVariables false
/-- Each process has one place. -/
def Un (pl : List Pl) : Prop := pl.Pairwise fun x y => x.p ≠ y.p
theorem cnt_append (a b : List Pl) (n : Int) : cnt (a ++ b) n = cnt a n + cnt b n := by
  induction a with
  | nil => simp [cnt]
  | cons x r ih => simp only [List.cons_append, cnt, ih]; omega
theorem cnt_put (L : List Pl) (id m n : Int) : cnt (put L id m) n = cnt L n + if m = n then 1 else 0 := by
  have h : cnt L n = cnt (L.take (less L id)) n + cnt (L.drop (less L id)) n := by rw [← cnt_append, List.take_append_drop]
  rw [put, cnt_append, h]
  simp only [cnt]
  omega
theorem vac_not (r : List Pl) (id : Int) (h : ∀ y ∈ r, y.p ≠ id) : vac r id = r := by
  rw [vac, List.filter_eq_self]
  intro y hy
  simpa using h y hy
theorem vac_cons (x : Pl) (r : List Pl) (id : Int) : vac (x :: r) id = if x.p = id then vac r id else x :: vac r id := by
  by_cases e : x.p = id <;> simp [vac, e]
/-- Where it is moved away from, one is missing. -/
theorem cnt_vac : ∀ {pl : List Pl} {id : Int}, Un pl → (∀ n, cnt (vac pl id) n + (if plc pl id = (n, true) then 1 else 0) = cnt pl n)
  | [], id, h, n => by simp [vac, cnt, plc]
  | x :: r, id, h, n => by
    have hr : Un r := (List.pairwise_cons.1 h).2
    have hx := (List.pairwise_cons.1 h).1
    rw [vac_cons]
    by_cases e : x.p = id
    · rw [if_pos e, vac_not r id (fun y hy h' => hx y hy (by rw [e, h']))]
      simp only [plc, if_pos e, cnt, Prod.mk.injEq, and_true]
      omega
    · rw [if_neg e]
      have ih := cnt_vac (id := id) hr n
      simp only [plc, if_neg e, cnt]
      omega
theorem un_vac {pl : List Pl} (id : Int) (h : Un pl) : Un (vac pl id) := h.sublist List.filter_sublist
theorem un_put {pl : List Pl} {id m : Int} (h : Un pl) (hno : ∀ y ∈ pl, y.p ≠ id) : Un (put pl id m) := by
  have hs : Un (pl.take (less pl id) ++ pl.drop (less pl id)) := by rw [List.take_append_drop]; exact h
  unfold Un at hs ⊢
  rw [List.pairwise_append] at hs
  obtain ⟨h1, h2, h3⟩ := hs
  rw [put, List.pairwise_append]
  refine ⟨h1, List.pairwise_cons.2 ⟨fun y hy => (hno y (List.mem_of_mem_drop hy)).symm, h2⟩, fun a ha b hb => ?_⟩
  rcases List.mem_cons.1 hb with rfl | hb
  · exact hno a (List.mem_of_mem_take ha)
  · exact h3 a ha b hb
theorem un_asg {pl : List Pl} {id m : Int} (h : Un pl) : Un (asg pl id m) := by
  unfold asg
  split
  · exact h
  · refine un_put (un_vac id h) fun y hy => ?_
    simp only [vac, List.mem_filter, Bool.not_eq_true', beq_eq_false_iff_ne] at hy
    exact hy.2
theorem un_plG (L : List Int) : ∀ (k p : Nat) (T : List Pl), Un T → Un (plG L k p T).1
  | 0, _, _, h => h
  | k + 1, p, T, h => un_plG L k _ _ (un_asg h)
theorem len_plG (L : List Int) : ∀ (k p : Nat) (T : List Pl), (plG L k p T).1.length ≤ T.length + k
  | 0, _, _ => Nat.le_refl _
  | k + 1, p, T => by
    have h := len_plG L k (nk L (nk L (nk L p))) (asg T (1 + nx L p 20) (nx L (nk L (nk L p)) (1 + nx L (nk L p) 3)))
    have h2 := asg_len T (1 + nx L p 20) (nx L (nk L (nk L p)) (1 + nx L (nk L p) 3))
    simp only [plG]
    omega
theorem plN_le (L : List Int) : plN L ≤ 14 := by
  have := nx_lt L (nk L 0) (n := 14) (by omega)
  unfold plN
  omega
theorem plR_un (L : List Int) : Un (plR L).1 := un_plG L _ _ _ List.Pairwise.nil
theorem plR_len (L : List Int) : (plR L).1.length ≤ 14 := by
  have := len_plG L (plN L) (nk L (nk L 0)) []
  have := plN_le L
  simp only [plR, List.length_nil] at *
  omega
theorem nds_len (L : List Int) : (nds L).length ≤ 3 := by simp [nds]; omega
/-- What one more place does. -/
theorem cnt_asg {pl : List Pl} {id m n : Int} (h : Un pl) (h0 : id ≠ 0) : cnt (asg pl id m) n + (if plc pl id = (n, true) then 1 else 0) = cnt pl n + if m = n then 1 else 0 := by
  have := cnt_vac (id := id) h n
  rw [asg, if_neg h0, cnt_put]
  omega
/-- How much busier one node is than another one. -/
def gap (pl : List Pl) (f t : Int) : Int := (cnt pl f : Int) - cnt pl t
theorem gap_asg {pl : List Pl} {id f t : Int} (h : Un pl) (hft : f ≠ t) : gap pl f t - 2 ≤ gap (asg pl id t) f t := by
  by_cases h0 : id = 0
  · rw [asg, if_pos h0]; omega
  · have h1 := cnt_asg (m := t) (n := f) h h0
    have h2 := cnt_asg (m := t) (n := t) h h0
    rw [if_neg (Ne.symm hft)] at h1
    rw [if_pos rfl] at h2
    unfold gap
    split at h1 <;> split at h2 <;> omega
theorem gap_car (f t : Int) (hft : f ≠ t) : ∀ (ps : List Pn) {pl : List Pl}, Un pl → (∀ x ∈ ps, x.t = t) → gap pl f t - 2 * ps.length ≤ gap (car pl ps) f t ∧ Un (car pl ps)
  | [], pl, h, _ => ⟨by simp [car], h⟩
  | x :: r, pl, h, hx => by
    have h1 := gap_asg (id := x.p) h hft
    have h2 := hx x (by simp)
    obtain ⟨h3, h4⟩ := gap_car f t hft r (pl := asg pl x.p x.t) (un_asg h) fun y hy => hx y (by simp [hy])
    rw [h2] at h3
    refine ⟨?_, h4⟩
    show _ ≤ gap (car (asg pl x.p x.t) r) f t
    rw [h2]
    simp only [List.length_cons]
    omega
/-! ### The plan -/
theorem foldl_mem (g : Ld → Ld → Ld) (hg : ∀ a x, g a x = a ∨ g a x = x) : ∀ (l : List Ld) (p : Ld), l.foldl g p = p ∨ l.foldl g p ∈ l
  | [], p => .inl rfl
  | x :: r, p => by
    rw [List.foldl_cons]
    rcases foldl_mem g hg r (g p x) with h | h
    · rw [h]
      rcases hg p x with e | e
      · exact .inl e
      · exact .inr (by simp [e])
    · exact .inr (by simp [h])
theorem pick_mem {l : List Ld} (h : (pick l).2.2 = true) : (pick l).1 ∈ l ∧ (pick l).2.1 ∈ l := by
  match l, h with
  | [], h => simp [pick] at h
  | [_], h => simp [pick] at h
  | p :: q :: r, _ =>
    have hu : ∀ a x, up a x = a ∨ up a x = x := fun a x => by unfold up; split <;> simp
    have hd : ∀ a x, dn a x = a ∨ dn a x = x := fun a x => by unfold dn; split <;> simp
    refine ⟨?_, ?_⟩
    · rcases foldl_mem up hu (p :: q :: r) p with e | e
      · simp only [pick]; rw [e]; simp
      · exact e
    · rcases foldl_mem dn hd (p :: q :: r) p with e | e
      · simp only [pick]; rw [e]; simp
      · exact e
structure Plan (nodes : List Int) (gs : List (List Int)) (pl : List Pl) (t : Tm) (g : List Int) (f u : Int) : Prop where
  eq : dec (lds nodes pl) gs pl t = g.map fun id => ⟨id, f, u⟩
  mem : g ∈ gs
  ne : g ≠ []
  hf : f ∈ nodes
  hu : u ∈ nodes
  hfu : f ≠ u
  at_ : ∀ id ∈ g, plc pl id = (f, true)
  gap : 2 * (g.length : Int) ≤ gap pl f u
theorem first_cases (a b : Ld) (pl : List Pl) : ∀ gs : List (List Int), first a b pl gs = [] ∨ ∃ g ∈ gs, good a b pl g = true ∧ first a b pl gs = pland a b g
  | [] => .inl rfl
  | g :: r => by
    simp only [first]
    split
    · rename_i h
      exact .inr ⟨g, by simp, h, rfl⟩
    · rcases first_cases a b pl r with h | ⟨g', h1, h2, h3⟩
      · exact .inl h
      · exact .inr ⟨g', by simp [h1], h2, h3⟩
theorem dec_spread {nodes : List Int} {gs : List (List Int)} {pl : List Pl} {t : Tm} (h : spread (lds nodes pl) < t.high) : dec (lds nodes pl) gs pl t = [] := by
  unfold dec
  rw [if_neg]
  unfold starts
  unfold spread at h
  cases h2 : (pick (lds nodes pl)).2.2 with
  | false => simp
  | true =>
    rw [if_pos h2] at h
    simp [h]
theorem dec_cases (nodes : List Int) (gs : List (List Int)) {pl : List Pl} (hl : pl.length ≤ 200) (t : Tm) (ht : 0 < t.high) : dec (lds nodes pl) gs pl t = [] ∨ ∃ g f u, Plan nodes gs pl t g f u := by
  by_cases hs : starts (lds nodes pl) t = true
  · have hd : dec (lds nodes pl) gs pl t = first (pick (lds nodes pl)).1 (pick (lds nodes pl)).2.1 pl gs := by rw [dec, if_pos hs]
    simp only [starts, Bool.and_eq_true, Bool.not_eq_true', decide_eq_false_iff_not] at hs
    obtain ⟨⟨_, hok⟩, hw⟩ := hs
    obtain ⟨hma, hmb⟩ := pick_mem hok
    generalize (pick (lds nodes pl)).1 = a at *
    generalize (pick (lds nodes pl)).2.1 = b at *
    simp only [lds, List.mem_map] at hma hmb
    obtain ⟨f, hf, rfl⟩ := hma
    obtain ⟨u, hu, rfl⟩ := hmb
    rcases first_cases (ldOf pl f) (ldOf pl u) pl gs with h | ⟨g, h1, h2, h3⟩
    · exact .inl (hd.trans h)
    · have c1 := cnt_le pl f
      have c2 := cnt_le pl u
      simp only [good, Bool.and_eq_true, Bool.not_eq_true', decide_eq_false_iff_not, beq_eq_false_iff_ne] at h2
      obtain ⟨⟨g1, g2⟩, g3⟩ := h2
      change ¬ 0 ≤ fidx (els pl f) g at g2
      change ¬ IntKind.i64.wrap ((cnt pl f : Int) - cnt pl u) < _ at g3
      rw [w64 (by omega) (by omega)] at g3
      refine .inr ⟨g, f, u, hd.trans h3, h1, fun e => g1 (by simp [e]), hf, hu, ?_, fun id hid => ?_, by unfold gap; omega⟩
      · intro e
        subst e
        change ¬ IntKind.i64.wrap (256 * (cnt pl f : Int) - 256 * (cnt pl f : Int)) < _ at hw
        rw [w64 (by omega) (by omega)] at hw
        omega
      · rcases fidx_cases (els pl f) g with ⟨_, hall⟩ | ⟨k, x, hk, _⟩
        · obtain ⟨i, hi, rfl⟩ := List.mem_iff_getElem.1 hid
          have := hall i _ (List.getElem?_eq_getElem hi)
          simp only [els, Bool.or_eq_false_iff, Bool.not_eq_false', bne_eq_false_iff_eq] at this
          exact Prod.ext this.2 this.1
        · omega
  · exact .inl (by rw [dec, if_neg hs])
end Go.Abs.Po
namespace Go.Abs.Po
open Go Go.Proofs Go.Abs
set_option maxRecDepth 100000
set_option maxHeartbeats 4000000
set_option linter.unusedSimpArgs false
set_option linter.unusedVariables false
theorem isP_plP (L : List Int) : IsP (plP L) (plR L).1 := by
  unfold plP
  split
  · rename_i h
    exact .inr ⟨rfl, by simp [plR, h, plG]⟩
  · exact .inl rfl
theorem high_pos (L : List Int) : 0 < high L := by
  have := nx_nonneg L (plR L).2 (n := 600) (by omega)
  unfold high
  omega
/-- The terms of a deck. -/
def tmL (L : List Int) : Tm := ⟨high L, 0, 3⟩
structure LM where
  L : List Int
  M : List Int
  hL : L.length ≤ maxLen
  hM : M.length ≤ maxLen
def encLM (x : LM) : List AV := [.list 1 (x.L.map ic), .list 1 (x.M.map ic)]
theorem encLM_inj {β : Type} {f : LM → β} : ∀ x y, encLM x = encLM y → f x = f y := fun x y h => by
  obtain ⟨L, M, h1, h2⟩ := x
  obtain ⟨L', M', h1', h2'⟩ := y
  simp only [encLM, List.cons.injEq, AV.list.injEq, true_and, and_true] at h
  have := map_inj ic_inj h.1; subst this
  have := map_inj ic_inj h.2; subst this
  rfl
/-- What is known of what is made of two decks. -/
structure Made (nodes : List Int) (pl : List Pl) (gs : List (List Int)) (t : Tm) : Prop where
  hn : nodes.length ≤ 3
  un : Un pl
  hl : pl.length ≤ 14
  hg : gs.length ≤ 14
  hg' : ∀ g ∈ gs, g.length ≤ 16
  ht : 0 < t.high
theorem made (L M : List Int) : Made (nds L) (plR L).1 (gRes M (plR L).1) (tmL L) := by
  have hf := gRes_few M (plR L).1
  have hl := plR_len L
  exact ⟨nds_len L, plR_un L, hl, Nat.le_trans hf.1 hl, hf.2, high_pos L⟩
noncomputable def lw_specs : NL Spec := [(7, ⟨0, saneS⟩), (8, ⟨1, placesS⟩), (9, ⟨1, groupsS⟩), (10, ⟨1, countrS⟩), (12, ⟨1, decS⟩), (21, ⟨0, spreadS⟩), (22, ⟨1, plcrS⟩), (16, ⟨1, carS⟩), (18, ⟨1, setS⟩)]
theorem lw_specs_ok : ∀ p ∈ lw_specs, FnC Try.prog p.1 p.2.fn := by
  simp only [lw_specs, List.mem_cons, List.not_mem_nil, or_false]
  rintro p (rfl | rfl | rfl | rfl | rfl | rfl | rfl | rfl | rfl)
  · exact sane_ok
  · exact places_ok
  · exact groups_ok
  · exact countr_ok
  · exact dec_ok
  · exact refSpread_ok
  · exact plcr_ok
  · exact car_ok
  · exact set_ok
attribute [local simp] runL stepA execA_eq skipA run_ret run_fail run_get run_put run_asm num lk st lk_st putA AS.ev ofValue ofFlat mkv splice fieldAddrA buildA fillA runF gdst pickA unOpA extractA resVs resV pack frzT inlT inlV frzV frzVs frzL frz1 newId AV.cellsOf AV.flat AV.flat2 specOf loadA_runR capA copyA copyTo srcA sliceCA slice3A appendZA extA AV.place lenCA clearA clearTo expG expB3 List.zipWith renL fF handB renB AV.ren backF backL idsOf freshIds refsL refsB AV.refs List.range List.range.loop placesA sliceRows rowsOf convertA sliceArrA sliceA bndA nilCheckA arrayAtA mmA lookupA keyOf keyOK findA keyEqA foundA makeMapA mapUpdateA appendA rowsA indexA partA fieldA retE2 frqT frqV frqVs frqL frq1 reachE blkRefs outE nodupE firstE seqO expB2 expF instA take_len_map List.findIdx?_cons List.findIdx?_nil lw_specs saneS_eq
def ldB0 (x : Ld) : ABlk := { gen := 1, kind := 2, elem := 29, size := 3, inl := true, rows := [x.cells] }
def seen (nodes : List Int) (f : Int) (c : Nat) : Int := if f ∈ nodes then (c : Int) else 0
theorem seen_step (nodes : List Int) (k : Nat) (f x : Int) (c : Nat) (hx : nodes[k]? = some x) : seen (nodes.take (k + 1)) f c = if x = f then (c : Int) else seen (nodes.take k) f c := by
  unfold seen
  rw [List.take_add_one, hx]
  by_cases e : x = f
  · subst e; simp
  · simp [e, Ne.symm e]

theorem dec_len {nodes : List Int} {gs : List (List Int)} {pl : List Pl} {t : Tm} (hm : Made nodes pl gs t) : (dec (lds nodes pl) gs pl t).length ≤ 16 := by
  rcases dec_cases nodes gs (pl := pl) (by have := hm.hl; omega) t hm.ht with h | ⟨g, f, u, h⟩
  · rw [h]; simp
  · rw [h.eq, List.length_map]; exact hm.hg' g h.mem
theorem cal_walk {nodes : List Int} {pl : List Pl} {gs : List (List Int)} {hi : Int} {P : AV} {L M : List Int} (hm : Made nodes pl gs ⟨hi, 0, 3⟩) (hIP : IsP P pl)
    (hP : placesS [.list 1 (L.map ic)] [] = some (.tup [.agg [.int .i64 1, .list 1 (nodes.map ic), .nils, P, .nils, .nils], .agg [.int .i64 hi, .int .i64 0, .int .i64 3]], []))
    (hG : groupsS [.list 1 (M.map ic), .agg [.int .i64 1, .list 1 (nodes.map ic), .nils, P, .nils, .nils]] [] = some (.list 1 (gs.map gL), [])) :
    W Try.prog (Ret Try.prog Try.f5 (.bool true) []) (codeOf Try.f5) [] ⟨119, [(0, .list 1 (L.map ic)), (1, .list 1 (M.map ic))], []⟩ := by
  have n1 : nodes.length ≤ 8 := by have := hm.hn; omega
  have n2 : pl.length ≤ 200 := by have := hm.hl; omega
  have n3 : (lds nodes pl).length ≤ 200 := by simp [lds]; omega
  have n4 := dec_len hm
  have hC := countrS_eq 1 nodes P pl hIP n1 n2
  have hD := decS_eq (lds nodes pl) n3 gs (by have := hm.hg; omega) (fun g hg => by have := hm.hg' g hg; omega) 1 nodes P pl hIP n1 n2 ⟨hi, 0, 3⟩
  have hS := spreadS_eq (lds nodes pl)
  have hPl := fun id => plcrS_eq 1 nodes P pl id hIP n1 n2
  have hK := carS_eq 1 nodes P pl (dec (lds nodes pl) gs pl ⟨hi, 0, 3⟩) hIP n1 (by have := hm.hl; omega)
  have hsp := dec_spread (nodes := nodes) (gs := gs) (pl := pl) (t := ⟨hi, 0, 3⟩)
  have hcs := dec_cases nodes gs (pl := pl) n2 ⟨hi, 0, 3⟩ hm.ht
  dsimp only at hD hsp
  rcases hIP with hIP | ⟨hIP, _⟩
  all_goals
    simp only [hIP] at hP hG hC hD hPl hK
    by_cases hw : spread (lds nodes pl) < hi
    · have he := hsp hw
      rw [he] at hD
      simp only [pnV, if_true] at hD
      repeat (first | refine N.seq ?_ | refine N.blk ?_ | refine W.seq rfl ?_ | refine W.block rfl ?_ | refine W.skip rfl ?_ | refine W.ret rfl ?_ | refine N.nil ?_ | refine N.loop ?_ | refine W.exit rfl ?_ | refine X.seq ?_ | refine X.loop ?_ | refine X.hit ?_ | refine X.pass (by decide) ?_ | refine W.condT rfl (by rfl) ?_ | refine W.condF rfl (by rfl) ?_ | refine W.region tm lw_specs_ok rfl (by conv => lhs; simp [hP, hG, hC, hD, hS, hw]) fun _ => ?_ | refine W.regionD tm lw_specs_ok rfl (by conv => lhs; simp [hP, hG, hC, hD, hS, hw]) (by conv => lhs; simp) (by kernel_rfl) fun _ => ?_)
      first | exact Ret.dataR rfl (by conv => lhs; simp) (by conv => lhs; simp) (by first | rfl | simp [inlT, inlV]) | fail "no return here"
    · rcases hcs with he | ⟨g, f, u, hp⟩
      · rw [he] at hD
        simp only [pnV, if_true] at hD
        repeat (first | refine N.seq ?_ | refine N.blk ?_ | refine W.seq rfl ?_ | refine W.block rfl ?_ | refine W.skip rfl ?_ | refine W.ret rfl ?_ | refine N.nil ?_ | refine N.loop ?_ | refine W.exit rfl ?_ | refine X.seq ?_ | refine X.loop ?_ | refine X.hit ?_ | refine X.pass (by decide) ?_ | refine W.condT rfl (by rfl) ?_ | refine W.condF rfl (by rfl) ?_ | refine W.region tm lw_specs_ok rfl (by conv => lhs; simp [hP, hG, hC, hD, hS, hw]) fun _ => ?_ | refine W.regionD tm lw_specs_ok rfl (by conv => lhs; simp [hP, hG, hC, hD, hS, hw]) (by conv => lhs; simp) (by kernel_rfl) fun _ => ?_)
        first | exact Ret.dataR rfl (by conv => lhs; simp) (by conv => lhs; simp) (by first | rfl | simp [inlT, inlV]) | fail "no return here"
      · have hne : g.map (fun id => (⟨id, f, u⟩ : Pn)) ≠ [] := by simpa using hp.ne
        have hg16 := hm.hg' g hp.mem
        rw [hp.eq] at hD hK
        have hcl := car_len (g.map fun id => (⟨id, f, u⟩ : Pn)) pl
        have hgap := (gap_car f u hp.hfu (g.map fun id => (⟨id, f, u⟩ : Pn)) (pl := pl) hm.un (by simp)).1
        have hgp := hp.gap
        have hall : ∀ (k : Nat) x, (g.map fun id => (⟨id, f, u⟩ : Pn))[k]? = some x → x.f = f ∧ x.t = u ∧ plc pl x.p = (f, true) := fun k x hx => by
          have := List.mem_of_getElem? hx
          simp only [List.mem_map] at this
          obtain ⟨id, h1, rfl⟩ := this
          exact ⟨rfl, rfl, hp.at_ id h1⟩
        have hpl9 : (g.map fun id => (⟨id, f, u⟩ : Pn)).length ≤ 16 := by simpa using hg16
        rw [← List.length_map (fun id => (⟨id, f, u⟩ : Pn))] at hgp
        simp only [pnV, if_neg hne] at hD hK
        generalize (g.map fun id => (⟨id, f, u⟩ : Pn)) = ps at *
        have hl0 : 0 < ps.length := List.length_pos_iff.2 hne
        obtain ⟨x0, hx0⟩ := get_lt hl0
        obtain ⟨a1, a2, _⟩ := hall 0 x0 hx0
        have hC2 := countrS_eq 1 nodes (.list 2 ((car pl ps).map Pl.cells)) (car pl ps) (isP_plL _) n1 (by have := hm.hl; omega)
        have q00 : ((ps.length : Int) == 0) = false := beq_eq_false_iff_ne.2 (by omega)
        repeat (first | refine N.seq ?_ | refine N.blk ?_ | refine W.seq rfl ?_ | refine W.block rfl ?_ | refine W.skip rfl ?_ | refine W.ret rfl ?_ | refine N.nil ?_ | refine N.loop ?_ | refine W.exit rfl ?_ | refine X.seq ?_ | refine X.loop ?_ | refine X.hit ?_ | refine X.pass (by decide) ?_ | refine W.condT rfl (by rfl) ?_ | refine W.condF rfl (by rfl) ?_ | refine W.region tm lw_specs_ok rfl (by conv => lhs; simp [hP, hG, hC, hD, hS, hw, Pn.cells, q00, hx0, hne, a1, a2]) fun _ => ?_ | refine W.regionD tm lw_specs_ok rfl (by conv => lhs; simp [hP, hG, hC, hD, hS, hw, Pn.cells, q00, hx0, hne, a1, a2]) (by conv => lhs; simp) (by kernel_rfl) fun _ => ?_)
        refine W.loop rfl (ι := { q : Nat × NL ABlk // q.1 ≤ ps.length ∧ lk q.2 96 = some (vB 1 nodes P) })
          (fun q => ⟨119, [(5, .ptr 96 1 0 0), (9, .list 3 (ps.map Pn.cells)), (10, .int .i64 f), (11, .int .i64 u), (56, .list 3 (ps.map Pn.cells)), (57, .int .i64 ps.length), (58, .int .i64 (q.1.1 : Nat))], q.1.2⟩) (fun q => ps.length - q.1.1)
          ⟨(0, _), by simp, by simp [lk_st, lk, vB, vA, hIP]⟩ (AS.le_of rfl ⟨rfl, rfl, rfl, rfl, rfl, rfl, rfl, trivial⟩ (fun _ => rfl)) ?_
        rintro ⟨⟨k, h⟩, hk, h1⟩
        dsimp only at hk h1 ⊢
        by_cases hk2 : k = ps.length
        · subst hk2
          repeat (first | refine N.seq ?_ | refine N.blk ?_ | refine W.seq rfl ?_ | refine W.block rfl ?_ | refine W.skip rfl ?_ | refine W.ret rfl ?_ | refine N.nil ?_ | refine N.loop ?_ | refine W.exit rfl ?_ | refine X.seq ?_ | refine X.loop ?_ | refine X.hit ?_ | refine X.pass (by decide) ?_ | refine W.condT rfl (by rfl) ?_ | refine W.condF rfl (by rfl) ?_ | refine W.region tm lw_specs_ok rfl (by conv => lhs; simp [h1, vB, vA, hIP, hK, hC2]) fun _ => ?_ | refine W.regionD tm lw_specs_ok rfl (by conv => lhs; simp [h1, vB, vA, hIP, hK, hC2]) (by conv => lhs; simp) (by kernel_rfl) fun _ => ?_)
          have hll : (lds nodes (car pl ps)).length = nodes.length := by simp [lds]
          have hget : ∀ k x, nodes[k]? = some x → (lds nodes (car pl ps))[k]? = some (ldOf (car pl ps) x) := fun k x h => by rw [lds, List.getElem?_map, h]; rfl
          have hfn : seen nodes f (cnt (car pl ps) f) = cnt (car pl ps) f := if_pos hp.hf
          have hun : seen nodes u (cnt (car pl ps) u) = cnt (car pl ps) u := if_pos hp.hu
          have hfin : seen nodes u (cnt (car pl ps) u) ≤ seen nodes f (cnt (car pl ps) f) := by
            rw [hfn, hun]
            unfold gap at hgap hgp
            omega
          clear hfn hun
          generalize hcf : cnt (car pl ps) f = cf at *
          generalize hcu : cnt (car pl ps) u = cu at *
          generalize hLL : lds nodes (car pl ps) = LL at *
          refine W.loop rfl (ι := { q : Nat × NL ABlk // q.1 ≤ nodes.length })
            (fun q => ⟨119, [(10, .int .i64 f), (11, .int .i64 u), (16, .int .i64 (seen (nodes.take q.1.1) f cf)), (17, .int .i64 (seen (nodes.take q.1.1) u cu)), (97, .list 3 (LL.map Ld.cells)), (98, .int .i64 LL.length), (99, .int .i64 (q.1.1 : Nat))], q.1.2⟩) (fun q => nodes.length - q.1.1)
            ⟨(0, _), by simp⟩ (AS.le_of rfl ⟨rfl, rfl, by simp [seen], by simp [seen], rfl, rfl, rfl, trivial⟩ (fun _ => rfl)) ?_
          rintro ⟨⟨k, h⟩, hk⟩
          dsimp only at hk ⊢
          by_cases hk3 : k = nodes.length
          · subst hk3
            rw [List.take_length]
            repeat (first | refine N.seq ?_ | refine N.blk ?_ | refine W.seq rfl ?_ | refine W.block rfl ?_ | refine W.skip rfl ?_ | refine W.ret rfl ?_ | refine N.nil ?_ | refine N.loop ?_ | refine W.exit rfl ?_ | refine X.seq ?_ | refine X.loop ?_ | refine X.hit ?_ | refine X.pass (by decide) ?_ | refine W.condT rfl (by rfl) ?_ | refine W.condF rfl (by rfl) ?_ | refine W.region tm lw_specs_ok rfl (by conv => lhs; simp [hll, hfin]) fun _ => ?_ | refine W.regionD tm lw_specs_ok rfl (by conv => lhs; simp [hll, hfin]) (by conv => lhs; simp) (by kernel_rfl) fun _ => ?_)
            first | exact Ret.dataR rfl (by conv => lhs; simp) (by conv => lhs; simp) (by first | rfl | simp [inlT, inlV]) | fail "no return here"
          · have hlt : k < nodes.length := by omega
            obtain ⟨x, hx⟩ := get_lt hlt
            have hg := hget k x hx
            have q1 : (k : Int) < LL.length := by omega
            have q2 : ¬ LL.length ≤ k := by omega
            have hw := w64_succ hlt (capX (by omega))
            have s1 := seen_step nodes k f x cf hx
            have s2 := seen_step nodes k u x cu hx
            by_cases e1 : x = f
            · subst e1
              have e2 : ¬ x = u := hp.hfu
              have e2' : (x == u) = false := by simpa using e2
              rw [if_pos rfl] at s1
              rw [if_neg e2] at s2
              repeat (first | refine N.seq ?_ | refine N.blk ?_ | refine W.seq rfl ?_ | refine W.block rfl ?_ | refine W.skip rfl ?_ | refine W.ret rfl ?_ | refine N.nil ?_ | refine N.loop ?_ | refine W.exit rfl ?_ | refine X.seq ?_ | refine X.loop ?_ | refine X.hit ?_ | refine X.pass (by decide) ?_ | refine W.condT rfl (by rfl) ?_ | refine W.condF rfl (by rfl) ?_ | refine W.region tm lw_specs_ok rfl (by conv => lhs; simp [q1, q2, hg, ldOf, Ld.cells, hcf, e2', hw]) fun _ => ?_ | refine W.regionD tm lw_specs_ok rfl (by conv => lhs; simp [q1, q2, hg, ldOf, Ld.cells, hcf, e2', hw]) (by conv => lhs; simp) (by kernel_rfl) fun _ => ?_)
              exact ⟨⟨(k + 1, _), hlt⟩, by dsimp only; omega, AS.le_of rfl ⟨rfl, rfl, by rw [s1]; rfl, by rw [s2]; rfl, rfl, rfl, rfl, trivial⟩ (fun _ => rfl)⟩
            · have e1' : (x == f) = false := by simpa using e1
              rw [if_neg e1] at s1
              by_cases e2 : x = u
              · subst e2
                rw [if_pos rfl] at s2
                repeat (first | refine N.seq ?_ | refine N.blk ?_ | refine W.seq rfl ?_ | refine W.block rfl ?_ | refine W.skip rfl ?_ | refine W.ret rfl ?_ | refine N.nil ?_ | refine N.loop ?_ | refine W.exit rfl ?_ | refine X.seq ?_ | refine X.loop ?_ | refine X.hit ?_ | refine X.pass (by decide) ?_ | refine W.condT rfl (by rfl) ?_ | refine W.condF rfl (by rfl) ?_ | refine W.region tm lw_specs_ok rfl (by conv => lhs; simp [q1, q2, hg, ldOf, Ld.cells, hcu, e1', hw]) fun _ => ?_ | refine W.regionD tm lw_specs_ok rfl (by conv => lhs; simp [q1, q2, hg, ldOf, Ld.cells, hcu, e1', hw]) (by conv => lhs; simp) (by kernel_rfl) fun _ => ?_)
                exact ⟨⟨(k + 1, _), hlt⟩, by dsimp only; omega, AS.le_of rfl ⟨rfl, rfl, by rw [s1]; rfl, by rw [s2]; rfl, rfl, rfl, rfl, trivial⟩ (fun _ => rfl)⟩
              · have e2' : (x == u) = false := by simpa using e2
                rw [if_neg e2] at s2
                repeat (first | refine N.seq ?_ | refine N.blk ?_ | refine W.seq rfl ?_ | refine W.block rfl ?_ | refine W.skip rfl ?_ | refine W.ret rfl ?_ | refine N.nil ?_ | refine N.loop ?_ | refine W.exit rfl ?_ | refine X.seq ?_ | refine X.loop ?_ | refine X.hit ?_ | refine X.pass (by decide) ?_ | refine W.condT rfl (by rfl) ?_ | refine W.condF rfl (by rfl) ?_ | refine W.region tm lw_specs_ok rfl (by conv => lhs; simp [q1, q2, hg, ldOf, Ld.cells, e1', e2', hw]) fun _ => ?_ | refine W.regionD tm lw_specs_ok rfl (by conv => lhs; simp [q1, q2, hg, ldOf, Ld.cells, e1', e2', hw]) (by conv => lhs; simp) (by kernel_rfl) fun _ => ?_)
                exact ⟨⟨(k + 1, _), hlt⟩, by dsimp only; omega, AS.le_of rfl ⟨rfl, rfl, by rw [s1]; rfl, by rw [s2]; rfl, rfl, rfl, rfl, trivial⟩ (fun _ => rfl)⟩
        · have hlt : k < ps.length := by omega
          obtain ⟨x, hx⟩ := get_lt hlt
          obtain ⟨b1, b2, b3⟩ := hall k x hx
          have hq := hPl x.p
          rw [b3] at hq
          have q1 : (k : Int) < ps.length := by omega
          have q2 : ¬ ps.length ≤ k := by omega
          have hw := w64_succ hlt (capX (by omega))
          have hfu : (f == u) = false := by simpa using hp.hfu
          repeat (first | refine N.seq ?_ | refine N.blk ?_ | refine W.seq rfl ?_ | refine W.block rfl ?_ | refine W.skip rfl ?_ | refine W.ret rfl ?_ | refine N.nil ?_ | refine N.loop ?_ | refine W.exit rfl ?_ | refine X.seq ?_ | refine X.loop ?_ | refine X.hit ?_ | refine X.pass (by decide) ?_ | refine W.condT rfl (by rfl) ?_ | refine W.condF rfl (by rfl) ?_ | refine W.region tm lw_specs_ok rfl (by conv => lhs; simp [q1, q2, hx, Pn.cells, b1, b2, h1, vB, vA, hIP, hq, hfu, hw]) fun _ => ?_ | refine W.regionD tm lw_specs_ok rfl (by conv => lhs; simp [q1, q2, hx, Pn.cells, b1, b2, h1, vB, vA, hIP, hq, hfu, hw]) (by conv => lhs; simp) (by kernel_rfl) fun _ => ?_)
          exact ⟨⟨(k + 1, _), hlt, by simp [lk_st, h1, vB, vA, hIP]⟩, by dsimp only; omega, AS.le_of rfl ⟨rfl, rfl, rfl, rfl, rfl, rfl, rfl, trivial⟩ (fun _ => rfl)⟩
noncomputable def calS : SpecFn := mkS encLM fun _ => (.bool true, [])
theorem cal_ok : FnC Try.prog 5 calS := by
  refine FnC.walk 5 (fn := Try.f5) Try.func5 rfl (by kernel_rfl) fun x => ?_
  obtain ⟨L, M, hL, hM⟩ := x
  change W _ (Ret _ _ (.bool true) []) _ _ ⟨119, [(0, .list 1 (L.map ic)), (1, .list 1 (M.map ic))], []⟩
  exact cal_walk (made L M) (isP_plP L) (placesS_eq L hL) (groupsS_eq M hM 1 (nds L) (plP L) (plR L).1 (isP_plP L) (by have := nds_len L; omega) (by have := plR_len L; omega))
end Go.Abs.Po
namespace Go.Abs.Po
open Go Go.Proofs Go.Abs
set_option maxRecDepth 100000
set_option maxHeartbeats 4000000
set_option linter.unusedSimpArgs false
set_option linter.unusedVariables false
attribute [local simp] runL stepA execA_eq skipA run_ret run_fail run_get run_put run_asm num lk st lk_st putA AS.ev ofValue ofFlat mkv splice fieldAddrA buildA fillA runF gdst pickA unOpA extractA resVs resV pack frzT inlT inlV frzV frzVs frzL frz1 newId AV.cellsOf AV.flat AV.flat2 specOf loadA_runR capA copyA copyTo srcA sliceCA slice3A appendZA extA AV.place lenCA clearA clearTo expG expB3 List.zipWith renL fF handB renB AV.ren backF backL idsOf freshIds refsL refsB AV.refs List.range List.range.loop placesA sliceRows rowsOf convertA sliceArrA sliceA bndA nilCheckA arrayAtA mmA lookupA keyOf keyOK findA keyEqA foundA makeMapA mapUpdateA appendA rowsA indexA partA fieldA retE2 frqT frqV frqVs frqL frq1 reachE blkRefs outE nodupE firstE seqO expB2 expF instA take_len_map List.findIdx?_cons List.findIdx?_nil
def NdI := { l : List Int // l.length ≤ 8 }
def encSn (l : NdI) : List AV := [.list 1 (l.1.map ic), .list 1 (l.1.map ic)]
theorem encSn_inj {β : Type} {f : NdI → β} : ∀ x y, encSn x = encSn y → f x = f y := fun x y h => by
  simp only [encSn, List.cons.injEq, AV.list.injEq, true_and, and_true] at h
  rw [Subtype.ext (map_inj ic_inj h.1)]
noncomputable def snS : SpecFn := mkS encSn fun _ => (.bool true, [])
theorem snS_eq (l : List Int) (h : l.length ≤ 8) : snS [.list 1 (l.map ic), .list 1 (l.map ic)] [] = some (.bool true, []) := mkS_eq (enc := encSn) encSn_inj ⟨l, h⟩
theorem sn_ok : FnC Try.prog 40 snS := by
  refine FnC.walk 40 (fn := Try.f40) Try.func40 rfl (by kernel_rfl) fun x => ?_
  obtain ⟨l, hl⟩ := x
  change W _ (Ret _ _ (.bool true) []) _ _ ⟨26, [(0, .list 1 (l.map ic)), (1, .list 1 (l.map ic))], []⟩
  repeat (first | refine N.seq ?_ | refine N.blk ?_ | refine W.seq rfl ?_ | refine W.block rfl ?_ | refine W.skip rfl ?_ | refine W.ret rfl ?_ | refine N.nil ?_ | refine N.loop ?_ | refine W.exit rfl ?_ | refine X.seq ?_ | refine X.loop ?_ | refine X.hit ?_ | refine X.pass (by decide) ?_ | refine W.condT rfl (by rfl) ?_ | refine W.condF rfl (by rfl) ?_ | refine W.region tm no_specs rfl (by conv => lhs; simp) fun _ => ?_ | refine W.regionD tm no_specs rfl (by conv => lhs; simp) (by conv => lhs; simp) (by kernel_rfl) fun _ => ?_)
  refine W.loop rfl (ι := { q : Nat × NL ABlk // q.1 ≤ l.length }) (fun q => ⟨26, [(0, .list 1 (l.map ic)), (1, .list 1 (l.map ic)), (5, .int .i64 (q.1.1 : Nat))], q.1.2⟩) (fun q => l.length - q.1.1)
    ⟨(0, _), by simp⟩ (AS.le_of rfl ⟨rfl, rfl, rfl, trivial⟩ (fun _ => rfl)) ?_
  rintro ⟨⟨k, h⟩, hk⟩
  dsimp only at hk ⊢
  by_cases hk2 : k = l.length
  · subst hk2
    repeat (first | refine N.seq ?_ | refine N.blk ?_ | refine W.seq rfl ?_ | refine W.block rfl ?_ | refine W.skip rfl ?_ | refine W.ret rfl ?_ | refine N.nil ?_ | refine N.loop ?_ | refine W.exit rfl ?_ | refine X.seq ?_ | refine X.loop ?_ | refine X.hit ?_ | refine X.pass (by decide) ?_ | refine W.condT rfl (by rfl) ?_ | refine W.condF rfl (by rfl) ?_ | refine W.region tm no_specs rfl (by conv => lhs; simp) fun _ => ?_ | refine W.regionD tm no_specs rfl (by conv => lhs; simp) (by conv => lhs; simp) (by kernel_rfl) fun _ => ?_)
    first | exact Ret.dataR rfl (by conv => lhs; simp) (by conv => lhs; simp) (by first | rfl | simp [inlT, inlV]) | fail "no return here"
  · have hlt : k < l.length := by omega
    obtain ⟨x, hx⟩ := get_lt hlt
    have q1 : (k : Int) < l.length := by omega
    have q2 : ¬ l.length ≤ k := by omega
    have hw := w64_succ hlt (capX (by omega))
    repeat (first | refine N.seq ?_ | refine N.blk ?_ | refine W.seq rfl ?_ | refine W.block rfl ?_ | refine W.skip rfl ?_ | refine W.ret rfl ?_ | refine N.nil ?_ | refine N.loop ?_ | refine W.exit rfl ?_ | refine X.seq ?_ | refine X.loop ?_ | refine X.hit ?_ | refine X.pass (by decide) ?_ | refine W.condT rfl (by rfl) ?_ | refine W.condF rfl (by rfl) ?_ | refine W.region tm no_specs rfl (by conv => lhs; simp [q1, q2, hx, hw, ic]) fun _ => ?_ | refine W.regionD tm no_specs rfl (by conv => lhs; simp [q1, q2, hx, hw, ic]) (by conv => lhs; simp) (by kernel_rfl) fun _ => ?_)
    exact ⟨⟨(k + 1, _), hlt⟩, by dsimp only; omega, AS.le_of rfl ⟨rfl, rfl, rfl, trivial⟩ (fun _ => rfl)⟩
/-! ### Stores that have nothing -/
noncomputable def ssS : SpecFn := mkS (fun _ : Unit => [.agg [.nils], .agg [.nils]]) fun _ => (.bool true, [])
theorem ssS_eq : ssS [.agg [.nils], .agg [.nils]] [] = some (.bool true, []) := mkS_eq (enc := fun _ : Unit => [.agg [.nils], .agg [.nils]]) (fun _ _ _ => rfl) ()
theorem ss_ok : FnC Try.prog 41 ssS := by
  refine FnC.walk 41 (fn := Try.f41) Try.func41 rfl (by kernel_rfl) fun _ => ?_
  change W _ _ _ _ ⟨32, [(0, .agg [.nils]), (1, .agg [.nils])], []⟩
  repeat (first | refine N.seq ?_ | refine N.blk ?_ | refine W.seq rfl ?_ | refine W.block rfl ?_ | refine W.skip rfl ?_ | refine W.ret rfl ?_ | refine N.nil ?_ | refine N.loop ?_ | refine W.exit rfl ?_ | refine X.seq ?_ | refine X.loop ?_ | refine X.hit ?_ | refine X.pass (by decide) ?_ | refine W.condT rfl (by rfl) ?_ | refine W.condF rfl (by rfl) ?_ | refine W.region tm no_specs rfl (by conv => lhs; simp) fun _ => ?_ | refine W.regionD tm no_specs rfl (by conv => lhs; simp) (by conv => lhs; simp) (by kernel_rfl) fun _ => ?_)
  refine W.loop rfl (ι := NL ABlk) (fun h => ⟨32, [(15, .int .i64 0), (16, .int .i64 0)], h⟩) (fun _ => 0) _ (AS.le_of rfl ⟨rfl, rfl, trivial⟩ (fun _ => rfl)) ?_
  intro h
  repeat (first | refine N.seq ?_ | refine N.blk ?_ | refine W.seq rfl ?_ | refine W.block rfl ?_ | refine W.skip rfl ?_ | refine W.ret rfl ?_ | refine N.nil ?_ | refine N.loop ?_ | refine W.exit rfl ?_ | refine X.seq ?_ | refine X.loop ?_ | refine X.hit ?_ | refine X.pass (by decide) ?_ | refine W.condT rfl (by rfl) ?_ | refine W.condF rfl (by rfl) ?_ | refine W.region tm no_specs rfl (by conv => lhs; simp) fun _ => ?_ | refine W.regionD tm no_specs rfl (by conv => lhs; simp) (by conv => lhs; simp) (by kernel_rfl) fun _ => ?_)
  first | exact Ret.dataR rfl (by conv => lhs; simp) (by conv => lhs; simp) (by first | rfl | simp [inlT, inlV]) | fail "no return here"
/-! ### Vaults -/
theorem th57 : Try.prog.stoodInHeld 57 = false := by kernel_rfl
theorem eq57 (a b c d : Int) : eqV Try.prog 9 57 (.agg [.int .u64 a, .int .i64 b]) (.agg [.int .u64 c, .int .i64 d]) = some (a == c && b == d) := by
  simp [eqV, Try.underlying57, Try.underlying55, Try.underlying3, th57, eqFs, partV]
noncomputable def sm_specs : NL Spec := [(40, ⟨0, snS⟩), (41, ⟨0, ssS⟩)]
theorem sm_specs_ok : ∀ p ∈ sm_specs, FnC Try.prog p.1 p.2.fn := by
  simp only [sm_specs, List.mem_cons, List.not_mem_nil, or_false]
  rintro p (rfl | rfl)
  · exact sn_ok
  · exact ss_ok
attribute [local simp] sm_specs ssS_eq eqlA eq57
structure Vv where
  a : Vt
  P : AV
  h : IsP P a.pl
def encVv (x : Vv) : List AV := [x.a.av, .agg (vA x.a.view x.a.nodes x.P)]
theorem encVv_inj {β : Type} {f : Vv → β} (hf : ∀ x y, f x = f y) : ∀ x y, encVv x = encVv y → f x = f y := fun x y _ => hf x y
noncomputable def smS : SpecFn := mkS encVv fun _ => (.bool true, [])
theorem smS_eq (view : Int) (nodes : List Int) (P Q : AV) (pl : List Pl) (hP : IsP P pl) (hQ : IsP Q pl) (hn : nodes.length ≤ 8) (hl : pl.length ≤ 200) :
    smS [.agg [.int .i64 view, .list 1 (nodes.map ic), .nils, P, .nils, .nils], .agg [.int .i64 view, .list 1 (nodes.map ic), .nils, Q, .nils, .nils]] [] = some (.bool true, []) :=
  mkS_eq (enc := encVv) (encVv_inj fun _ _ => rfl) ⟨⟨view, nodes, P, pl, hP, hn, hl⟩, Q, hQ⟩
theorem sm_ok : FnC Try.prog 15 smS := by
  refine FnC.walk 15 (fn := Try.f15) Try.func15 rfl (by kernel_rfl) fun x => ?_
  obtain ⟨⟨view, nodes, P, pl, hP, hn, hl⟩, Q, hQ⟩ := x
  dsimp only at hQ ⊢
  refine W.weak (σ' := ⟨111, [(0, .agg (vA view nodes (.list 2 (pl.map Pl.cells)))), (1, .agg (vA view nodes (.list 2 (pl.map Pl.cells))))], []⟩) (AS.le_of' rfl ⟨⟨_, rfl, vA_weak hP.weak⟩, ⟨_, rfl, vA_weak hQ.weak⟩, trivial⟩ (fun _ => rfl)) ?_
  clear hP P hQ Q
  have hs := snS_eq nodes hn
  repeat (first | refine N.seq ?_ | refine N.blk ?_ | refine W.seq rfl ?_ | refine W.block rfl ?_ | refine W.skip rfl ?_ | refine W.ret rfl ?_ | refine N.nil ?_ | refine N.loop ?_ | refine W.exit rfl ?_ | refine X.seq ?_ | refine X.loop ?_ | refine X.hit ?_ | refine X.pass (by decide) ?_ | refine W.condT rfl (by rfl) ?_ | refine W.condF rfl (by rfl) ?_ | refine W.region tm sm_specs_ok rfl (by conv => lhs; simp [vA, hs]) fun _ => ?_ | refine W.regionD tm sm_specs_ok rfl (by conv => lhs; simp [vA, hs]) (by conv => lhs; simp) (by kernel_rfl) fun _ => ?_)
  refine W.loop rfl (ι := { q : Nat × NL ABlk // q.1 ≤ pl.length ∧ lk q.2 48 = some (vB view nodes (.list 2 (pl.map Pl.cells))) ∧ lk q.2 64 = some (vB view nodes (.list 2 (pl.map Pl.cells))) })
    (fun q => ⟨111, [(2, .ptr 48 1 0 0), (3, .ptr 64 1 0 0), (5, .int .i64 (q.1.1 : Nat))], q.1.2⟩) (fun q => pl.length - q.1.1)
    ⟨(0, _), by simp, by rfl, by rfl⟩ (AS.le_of rfl ⟨rfl, rfl, rfl, trivial⟩ (fun _ => rfl)) ?_
  rintro ⟨⟨k, h⟩, hk, h1, h2⟩
  dsimp only at hk h1 h2 ⊢
  by_cases hk2 : k = pl.length
  · subst hk2
    repeat (first | refine N.seq ?_ | refine N.blk ?_ | refine W.seq rfl ?_ | refine W.block rfl ?_ | refine W.skip rfl ?_ | refine W.ret rfl ?_ | refine N.nil ?_ | refine N.loop ?_ | refine W.exit rfl ?_ | refine X.seq ?_ | refine X.loop ?_ | refine X.hit ?_ | refine X.pass (by decide) ?_ | refine W.condT rfl (by rfl) ?_ | refine W.condF rfl (by rfl) ?_ | refine W.region tm sm_specs_ok rfl (by conv => lhs; simp [h1, h2, vA, vB]) fun _ => ?_ | refine W.regionD tm sm_specs_ok rfl (by conv => lhs; simp [h1, h2, vA, vB]) (by conv => lhs; simp) (by kernel_rfl) fun _ => ?_)
    refine W.loop rfl (ι := { h : NL ABlk // lk h 48 = some (vB view nodes (.list 2 (pl.map Pl.cells))) ∧ lk h 64 = some (vB view nodes (.list 2 (pl.map Pl.cells))) })
      (fun q => ⟨111, [(2, .ptr 48 1 0 0), (3, .ptr 64 1 0 0), (6, .int .i64 0)], q.1⟩) (fun _ => 0)
      ⟨_, h1, h2⟩ (AS.le_of rfl ⟨rfl, rfl, rfl, trivial⟩ (fun _ => rfl)) ?_
    clear h1 h2 h
    rintro ⟨h, h1, h2⟩
    repeat (first | refine N.seq ?_ | refine N.blk ?_ | refine W.seq rfl ?_ | refine W.block rfl ?_ | refine W.skip rfl ?_ | refine W.ret rfl ?_ | refine N.nil ?_ | refine N.loop ?_ | refine W.exit rfl ?_ | refine X.seq ?_ | refine X.loop ?_ | refine X.hit ?_ | refine X.pass (by decide) ?_ | refine W.condT rfl (by rfl) ?_ | refine W.condF rfl (by rfl) ?_ | refine W.region tm sm_specs_ok rfl (by conv => lhs; simp [h1, h2, vA, vB]) fun _ => ?_ | refine W.regionD tm sm_specs_ok rfl (by conv => lhs; simp [h1, h2, vA, vB]) (by conv => lhs; simp) (by kernel_rfl) fun _ => ?_)
    refine W.loop rfl (ι := { h : NL ABlk // lk h 48 = some (vB view nodes (.list 2 (pl.map Pl.cells))) ∧ lk h 64 = some (vB view nodes (.list 2 (pl.map Pl.cells))) })
      (fun q => ⟨111, [(2, .ptr 48 1 0 0), (3, .ptr 64 1 0 0), (7, .int .i64 0)], q.1⟩) (fun _ => 0)
      ⟨_, h1, h2⟩ (AS.le_of rfl ⟨rfl, rfl, rfl, trivial⟩ (fun _ => rfl)) ?_
    clear h1 h2 h
    rintro ⟨h, h1, h2⟩
    repeat (first | refine N.seq ?_ | refine N.blk ?_ | refine W.seq rfl ?_ | refine W.block rfl ?_ | refine W.skip rfl ?_ | refine W.ret rfl ?_ | refine N.nil ?_ | refine N.loop ?_ | refine W.exit rfl ?_ | refine X.seq ?_ | refine X.loop ?_ | refine X.hit ?_ | refine X.pass (by decide) ?_ | refine W.condT rfl (by rfl) ?_ | refine W.condF rfl (by rfl) ?_ | refine W.region tm sm_specs_ok rfl (by conv => lhs; simp [h1, h2, vA, vB]) fun _ => ?_ | refine W.regionD tm sm_specs_ok rfl (by conv => lhs; simp [h1, h2, vA, vB]) (by conv => lhs; simp) (by kernel_rfl) fun _ => ?_)
    first | exact Ret.dataR rfl (by conv => lhs; simp) (by conv => lhs; simp) (by first | rfl | simp [inlT, inlV]) | fail "no return here"
  · have hlt : k < pl.length := by omega
    obtain ⟨x, hx⟩ := get_lt hlt
    have q1 : (k : Int) < pl.length := by omega
    have q2 : ¬ pl.length ≤ k := by omega
    have hw := w64_succ hlt (capX hl)
    repeat (first | refine N.seq ?_ | refine N.blk ?_ | refine W.seq rfl ?_ | refine W.block rfl ?_ | refine W.skip rfl ?_ | refine W.ret rfl ?_ | refine N.nil ?_ | refine N.loop ?_ | refine W.exit rfl ?_ | refine X.seq ?_ | refine X.loop ?_ | refine X.hit ?_ | refine X.pass (by decide) ?_ | refine W.condT rfl (by rfl) ?_ | refine W.condF rfl (by rfl) ?_ | refine W.region tm sm_specs_ok rfl (by conv => lhs; simp [h1, h2, vA, vB, q1, q2, hx, hw, Pl.cells]) fun _ => ?_ | refine W.regionD tm sm_specs_ok rfl (by conv => lhs; simp [h1, h2, vA, vB, q1, q2, hx, hw, Pl.cells]) (by conv => lhs; simp) (by kernel_rfl) fun _ => ?_)
    exact ⟨⟨(k + 1, _), hlt, by simp [lk_st, h1, vB, vA], by simp [lk_st, h2, vB, vA]⟩, by dsimp only; omega, AS.le_of rfl ⟨rfl, rfl, rfl, trivial⟩ (fun _ => rfl)⟩
end Go.Abs.Po
namespace Go.Abs.Po
open Go Go.Proofs Go.Abs
set_option maxRecDepth 100000
set_option linter.unusedSimpArgs false
set_option linter.unusedVariables false
/-- In order of processes, none of which is 0. -/
structure Srt (pl : List Pl) : Prop where
  lt : pl.Pairwise fun x y => x.p < y.p
  nz : ∀ x ∈ pl, x.p ≠ 0
theorem Srt.un {pl : List Pl} (h : Srt pl) : Un pl := h.lt.imp fun h e => by omega
theorem plc_append (a b : List Pl) (x : Int) : plc (a ++ b) x = if (plc a x).2 = true then plc a x else plc b x := by
  induction a with
  | nil => simp [plc]
  | cons y r ih =>
    simp only [List.cons_append, plc]
    by_cases e : y.p = x
    · simp [e]
    · simp only [if_neg e]; exact ih
theorem plc_no {a : List Pl} {x : Int} (h : ∀ y ∈ a, y.p ≠ x) : plc a x = (0, false) := by
  induction a with
  | nil => rfl
  | cons y r ih =>
    rw [plc, if_neg (h y (by simp))]
    exact ih fun z hz => h z (by simp [hz])
theorem plc_true {a : List Pl} {x n : Int} (h : plc a x = (n, true)) : ⟨x, n⟩ ∈ a := by
  induction a with
  | nil => simp [plc] at h
  | cons y r ih =>
    simp only [plc] at h
    split at h
    · rename_i e
      simp only [Prod.mk.injEq, and_true] at h
      subst e; subst h
      exact List.mem_cons_self
    · exact List.mem_cons_of_mem _ (ih h)
theorem plc_vac (pl : List Pl) (id x : Int) (h : x ≠ id) : plc (vac pl id) x = plc pl x := by
  induction pl with
  | nil => rfl
  | cons y r ih =>
    rw [vac_cons]
    split
    · rename_i e
      rw [ih, plc, if_neg (by omega)]
    · simp only [plc, ih]
theorem vac_no (pl : List Pl) (id : Int) : ∀ y ∈ vac pl id, y.p ≠ id := fun y hy => by
  simp only [vac, List.mem_filter, Bool.not_eq_true', beq_eq_false_iff_ne] at hy
  exact hy.2
theorem plc_put {L : List Pl} {id m : Int} (hno : ∀ y ∈ L, y.p ≠ id) (x : Int) : plc (put L id m) x = if x = id then (m, true) else plc L x := by
  rw [put, plc_append]
  by_cases e : x = id
  · subst e
    rw [plc_no fun y hy => hno y (List.mem_of_mem_take hy), if_neg (by simp), if_pos rfl, plc, if_pos rfl]
  · rw [if_neg e]
    have : plc L x = plc (L.take (less L id) ++ L.drop (less L id)) x := by rw [List.take_append_drop]
    rw [this, plc_append, plc, if_neg (show ¬ id = x from fun h => e h.symm)]
theorem plc_asg {pl : List Pl} {id m : Int} (h0 : id ≠ 0) (x : Int) : plc (asg pl id m) x = if x = id then (m, true) else plc pl x := by
  rw [asg, if_neg h0, plc_put (vac_no pl id)]
  split
  · rfl
  · rename_i e; rw [plc_vac _ _ _ e]
/-! ### Order -/
theorem less_split {id : Int} : ∀ {a b : List Pl}, (∀ y ∈ a, y.p < id) → (∀ y ∈ b, id < y.p) → less (a ++ b) id = a.length
  | [], [], _, _ => rfl
  | [], y :: b, _, hb => by
    have := hb y (by simp)
    have h : ¬ y.p < id := by omega
    simp [less, List.takeWhile_cons, h]
  | y :: a, b, ha, hb => by
    have h : y.p < id := ha y (by simp)
    have ih := less_split (a := a) (b := b) (fun z hz => ha z (by simp [hz])) hb
    simp only [less, List.cons_append, List.takeWhile_cons, h, decide_true, if_true, List.length_cons] at ih ⊢
    omega
/-- A list in order, parted at a process. -/
theorem part_at {pl : List Pl} (h : pl.Pairwise fun x y => x.p < y.p) (id : Int) : ∃ a m b, pl = a ++ m ++ b ∧ (∀ y ∈ a, y.p < id) ∧ (∀ y ∈ b, id < y.p) ∧ (m = [] ∧ (∀ y ∈ pl, y.p ≠ id) ∨ ∃ n, m = [⟨id, n⟩]) := by
  induction pl with
  | nil => exact ⟨[], [], [], rfl, by simp, by simp, .inl ⟨rfl, by simp⟩⟩
  | cons x r ih =>
    obtain ⟨h1, h2⟩ := List.pairwise_cons.1 h
    rcases Int.lt_trichotomy x.p id with e | e | e
    · obtain ⟨a, m, b, rfl, ha, hb, hm⟩ := ih h2
      refine ⟨x :: a, m, b, by simp, ?_, hb, ?_⟩
      · intro y hy
        rcases List.mem_cons.1 hy with rfl | hy
        · exact e
        · exact ha y hy
      · rcases hm with ⟨rfl, hm⟩ | hm
        · refine .inl ⟨rfl, fun y hy => ?_⟩
          rcases List.mem_cons.1 hy with rfl | hy
          · omega
          · exact hm y hy
        · exact .inr hm
    · refine ⟨[], [x], r, rfl, by simp, fun y hy => by have := h1 y hy; omega, .inr ⟨x.n, by subst e; rfl⟩⟩
    · refine ⟨[], [], x :: r, rfl, by simp, fun y hy => ?_, .inl ⟨rfl, fun y hy => ?_⟩⟩
      all_goals
        rcases List.mem_cons.1 hy with rfl | hy
        · omega
        · have := h1 y hy; omega
theorem vac_append (a b : List Pl) (id : Int) : vac (a ++ b) id = vac a id ++ vac b id := by simp [vac]
theorem asg_split {a m b : List Pl} {id n : Int} (h0 : id ≠ 0) (ha : ∀ y ∈ a, y.p < id) (hb : ∀ y ∈ b, id < y.p) (hm : ∀ y ∈ m, y.p = id) : asg (a ++ m ++ b) id n = a ++ ⟨id, n⟩ :: b := by
  have e : vac (a ++ m ++ b) id = a ++ b := by
    rw [vac_append, vac_append, vac_not a id (fun y hy => by have := ha y hy; omega), vac_not b id (fun y hy => by have := hb y hy; omega)]
    have : vac m id = [] := by
      rw [vac, List.filter_eq_nil_iff]
      intro y hy
      simp [hm y hy]
    rw [this, List.append_nil]
  rw [asg, if_neg h0, e, put, less_split ha hb]
  simp
theorem Srt.asg {pl : List Pl} (h : Srt pl) (id n : Int) : Srt (asg pl id n) := by
  by_cases h0 : id = 0
  · rw [Po.asg, if_pos h0]; exact h
  obtain ⟨a, m, b, rfl, ha, hb, hm⟩ := part_at h.lt id
  have hm' : ∀ y ∈ m, y.p = id := fun y hy => by
    rcases hm with ⟨rfl, _⟩ | ⟨k, rfl⟩
    · simp at hy
    · simp only [List.mem_singleton] at hy; rw [hy]
  rw [asg_split h0 ha hb hm']
  have h2 : (a ++ b).Pairwise fun x y => x.p < y.p := by
    have := h.lt.sublist (l₁ := a ++ b) (by rw [List.append_assoc]; exact List.Sublist.append_left (List.sublist_append_right m b) a)
    exact this
  rw [List.pairwise_append] at h2
  obtain ⟨p1, p2, p3⟩ := h2
  refine ⟨?_, fun x hx => ?_⟩
  · rw [List.pairwise_append]
    refine ⟨p1, List.pairwise_cons.2 ⟨fun y hy => hb y hy, p2⟩, fun x hx y hy => ?_⟩
    rcases List.mem_cons.1 hy with rfl | hy
    · exact ha x hx
    · exact p3 x hx y hy
  · rw [List.mem_append, List.mem_cons] at hx
    rcases hx with hx | rfl | hx
    · exact h.nz x (by simp [hx])
    · exact h0
    · exact h.nz x (by simp [hx])
/-- Who is there stays there, in the same order. -/
theorem ids_asg {pl : List Pl} (h : Srt pl) {id n k : Int} (hp : plc pl id = (k, true)) : (asg pl id n).map (·.p) = pl.map (·.p) := by
  have hmem := plc_true hp
  have h0 : id ≠ 0 := h.nz _ hmem
  obtain ⟨a, m, b, rfl, ha, hb, hm⟩ := part_at h.lt id
  rcases hm with ⟨rfl, hno⟩ | ⟨j, rfl⟩
  · exact absurd rfl (hno _ hmem)
  · rw [asg_split h0 ha hb (fun y hy => by simp only [List.mem_singleton] at hy; rw [hy])]
    simp
theorem Srt.plG (L : List Int) : ∀ (k p : Nat) (T : List Pl), Srt T → Srt (plG L k p T).1
  | 0, _, _, h => h
  | k + 1, p, T, h => Srt.plG L k _ _ (h.asg _ _)
theorem plR_srt (L : List Int) : Srt (plR L).1 := Srt.plG L _ _ _ ⟨List.Pairwise.nil, by simp⟩
/-! ### Carrying out a plan -/
def mvs (g : List Int) (f u : Int) : List Pn := g.map fun id => ⟨id, f, u⟩
theorem car_cons (pl : List Pl) (id f u : Int) (r : List Int) : car pl (mvs (id :: r) f u) = car (asg pl id u) (mvs r f u) := rfl
structure Moved (pl pl' : List Pl) (g : List Int) (f u : Int) (d : Nat) : Prop where
  srt : Srt pl'
  ids : pl'.map (·.p) = pl.map (·.p)
  at_ : ∀ x, plc pl' x = if x ∈ g then (u, true) else plc pl x
  dl : d ≤ g.length
  cf : cnt pl' f + d = cnt pl f
  cu : cnt pl' u = cnt pl u + d
  co : ∀ n, n ≠ f → n ≠ u → cnt pl' n = cnt pl n
theorem moved_some (f u : Int) (hfu : f ≠ u) : ∀ (g : List Int) {pl : List Pl}, Srt pl → (∀ id ∈ g, plc pl id = (f, true) ∨ plc pl id = (u, true)) → ∃ d, Moved pl (car pl (mvs g f u)) g f u d
  | [], pl, h, _ => ⟨0, h, rfl, by simp [mvs, car], Nat.le_refl _, rfl, rfl, fun _ _ _ => rfl⟩
  | id :: r, pl, h, hp => by
    have hid := hp id (by simp)
    have h0 : id ≠ 0 := by
      rcases hid with e | e <;> exact h.nz _ (plc_true e)
    have hs := h.asg id u
    have hr : ∀ x ∈ r, plc (asg pl id u) x = (f, true) ∨ plc (asg pl id u) x = (u, true) := fun x hx => by
      rw [plc_asg h0]
      split
      · exact .inr rfl
      · exact hp x (by simp [hx])
    have hids : (asg pl id u).map (·.p) = pl.map (·.p) := by
      rcases hid with e | e <;> exact ids_asg h e
    obtain ⟨d, hd⟩ := moved_some f u hfu r hs hr
    rw [car_cons]
    have hat : ∀ x, plc (car (asg pl id u) (mvs r f u)) x = if x ∈ id :: r then (u, true) else plc pl x := fun x => by
      rw [hd.at_, plc_asg h0]
      by_cases e1 : x ∈ r
      · simp [e1]
      · by_cases e2 : x = id
        · simp [e2]
        · simp [e1, e2]
    have kf := cnt_asg (m := u) (n := f) h.un h0
    have ku := cnt_asg (m := u) (n := u) h.un h0
    have ko := fun n => cnt_asg (m := u) (n := n) h.un h0
    rw [if_neg (Ne.symm hfu)] at kf
    rw [if_pos rfl] at ku
    rcases hid with e | e
    · rw [e, if_pos rfl] at kf
      rw [e, if_neg (by simpa using hfu)] at ku
      refine ⟨d + 1, hd.srt, hd.ids.trans hids, hat, by have := hd.dl; simp only [List.length_cons]; omega, by have := hd.cf; omega, by have := hd.cu; omega, fun n n1 n2 => ?_⟩
      have := ko n
      rw [e, if_neg (by simpa using Ne.symm n1), if_neg (Ne.symm n2)] at this
      have := hd.co n n1 n2
      omega
    · rw [e, if_neg (by simpa using Ne.symm hfu)] at kf
      rw [e, if_pos rfl] at ku
      refine ⟨d, hd.srt, hd.ids.trans hids, hat, by have := hd.dl; simp only [List.length_cons]; omega, by have := hd.cf; omega, by have := hd.cu; omega, fun n n1 n2 => ?_⟩
      have := ko n
      rw [e, if_neg (by simpa using Ne.symm n2), if_neg (Ne.symm n2)] at this
      have := hd.co n n1 n2
      omega
theorem moved {nodes : List Int} {gs : List (List Int)} {pl : List Pl} {t : Tm} {g : List Int} {f u : Int} (h : Srt pl) (hp : Plan nodes gs pl t g f u) : ∃ d, 1 ≤ d ∧ Moved pl (car pl (mvs g f u)) g f u d := by
  obtain ⟨id, r, rfl⟩ : ∃ a r, g = a :: r := by
    match g, hp.ne with
    | a :: r, _ => exact ⟨a, r, rfl⟩
  have h1 := hp.at_ id (by simp)
  have h0 : id ≠ 0 := h.nz _ (plc_true h1)
  obtain ⟨d, hd⟩ := moved_some f u hp.hfu (id :: r) h fun x hx => .inl (hp.at_ x hx)
  refine ⟨d, ?_, hd⟩
  have hfu := hp.hfu
  obtain ⟨d', hd'⟩ := moved_some f u hp.hfu r (h.asg id u) (fun x hx => by
    rw [plc_asg h0]
    split
    · exact .inr rfl
    · exact .inl (hp.at_ x (by simp [hx])))
  have kf := cnt_asg (m := u) (n := f) h.un h0
  rw [if_neg (Ne.symm hfu), h1, if_pos rfl] at kf
  have e1 := hd'.cf
  have e2 := hd.cf
  rw [car_cons] at e2
  omega
/-! ### Squares -/
def sq (pl : List Pl) : List Int → Nat
  | [] => 0
  | n :: r => cnt pl n * cnt pl n + sq pl r
theorem sq_same {pl pl' : List Pl} : ∀ {l : List Int}, (∀ n ∈ l, cnt pl' n = cnt pl n) → sq pl' l = sq pl l
  | [], _ => rfl
  | n :: r, h => by rw [sq, sq, h n (by simp), sq_same fun m hm => h m (by simp [hm])]
theorem sq_one {pl pl' : List Pl} {f : Int} : ∀ {l : List Int}, l.Nodup → f ∈ l → (∀ n ∈ l, n ≠ f → cnt pl' n = cnt pl n) → sq pl' l + cnt pl f * cnt pl f = sq pl l + cnt pl' f * cnt pl' f
  | n :: r, hn, hf, h => by
    obtain ⟨h1, h2⟩ := List.nodup_cons.1 hn
    rw [sq, sq]
    by_cases e : n = f
    · subst e
      rw [sq_same fun m hm => h m (by simp [hm]) (fun e => h1 (e ▸ hm))]
      omega
    · have hf' : f ∈ r := by
        rcases List.mem_cons.1 hf with rfl | h
        · exact absurd rfl e
        · exact h
      have := sq_one h2 hf' fun m hm => h m (by simp [hm])
      rw [h n (by simp) e]
      omega
theorem sq_two {pl pl' : List Pl} {f u : Int} (hfu : f ≠ u) : ∀ {l : List Int}, l.Nodup → f ∈ l → u ∈ l → (∀ n, n ≠ f → n ≠ u → cnt pl' n = cnt pl n) →
    sq pl' l + (cnt pl f * cnt pl f + cnt pl u * cnt pl u) = sq pl l + (cnt pl' f * cnt pl' f + cnt pl' u * cnt pl' u)
  | n :: r, hn, hf, hu, h => by
    obtain ⟨h1, h2⟩ := List.nodup_cons.1 hn
    rw [sq, sq]
    rcases List.mem_cons.1 hf with rfl | hf'
    · rcases List.mem_cons.1 hu with rfl | hu'
      · exact absurd rfl hfu
      · have := sq_one (pl := pl) (pl' := pl') h2 hu' fun m hm e => h m (fun e' => h1 (e' ▸ hm)) e
        omega
    · rcases List.mem_cons.1 hu with rfl | hu'
      · have := sq_one (pl := pl) (pl' := pl') h2 hf' fun m hm e => h m e (fun e' => h1 (e' ▸ hm))
        omega
      · have := sq_two hfu h2 hf' hu' h
        rw [h n (fun e => h1 (e ▸ hf')) (fun e => h1 (e ▸ hu'))]
        omega
theorem sq_less {a b d : Nat} (h1 : 1 ≤ d) (h : b + d ≤ a) : a * a + (b + d) * (b + d) + 2 ≤ (a + d) * (a + d) + b * b := by
  obtain ⟨e, rfl⟩ : ∃ e, a = b + d + e := ⟨a - (b + d), by omega⟩
  have : 1 ≤ d * d := Nat.mul_le_mul h1 h1
  simp only [Nat.mul_add, Nat.add_mul]
  rw [Nat.mul_comm d b, Nat.mul_comm e b, Nat.mul_comm e d]
  omega
theorem moved_sq {nodes : List Int} {gs : List (List Int)} {pl : List Pl} {t : Tm} {g : List Int} {f u : Int} (h : Srt pl) (hn : nodes.Nodup) (hp : Plan nodes gs pl t g f u) : sq (car pl (mvs g f u)) nodes + 2 ≤ sq pl nodes := by
  obtain ⟨d, h1, hd⟩ := moved h hp
  have h2 := sq_two hp.hfu hn hp.hf hp.hu hd.co
  have h3 := hp.gap
  unfold gap at h3
  have h4 := hd.dl
  have h5 := hd.cf
  have h6 := hd.cu
  generalize car pl (mvs g f u) = pl' at *
  have h7 := sq_less (a := cnt pl' f) (b := cnt pl u) h1 (by omega)
  rw [h5, ← h6] at h7
  omega
end Go.Abs.Po
