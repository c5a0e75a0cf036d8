/- Places, as the reference keeps them. Conditions: none. -/
import Derived.Test.YtkalkcgbecbgpaaPo1
namespace Go.Abs.Po
open Go Go.Proofs Go.Abs
set_option maxRecDepth 100000
set_option maxHeartbeats 4000000
set_option linter.unusedSimpArgs false
set_option linter.unusedVariables false
structure Pl where
  p : Int
  n : Int
def Pl.cells (x : Pl) : List AV := [.int .u64 x.p, .int .i64 x.n]
theorem Pl.inj (x y : Pl) (h : x.cells = y.cells) : x = y := by
  cases x; cases y
  simp only [Pl.cells, List.cons.injEq, AV.int.injEq, true_and, and_true] at h
  obtain ⟨rfl, rfl⟩ := h
  rfl
/-- A list of places, which may be nil. -/
def IsP (P : AV) (l : List Pl) : Prop := P = .list 2 (l.map Pl.cells) ∨ (P = .nils ∧ l = [])
theorem IsP.inj {P : AV} {l m : List Pl} (h : IsP P l) (h' : IsP P m) : l = m := by
  rcases h with rfl | ⟨rfl, rfl⟩ <;> rcases h' with h' | ⟨h', rfl⟩
  · simp only [AV.list.injEq, true_and] at h'
    exact map_inj Pl.inj h'
  · cases h'
  · cases h'
  · rfl
theorem IsP.weak {P : AV} {l : List Pl} (h : IsP P l) : AV.weaker P (.list 2 (l.map Pl.cells)) := by
  rcases h with rfl | ⟨rfl, rfl⟩
  · exact AV.weaker_refl _
  · exact AV.weaker_nils 2
def vA (view : Int) (nodes : List Int) (P : AV) : List AV := [.int .i64 view, .list 1 (nodes.map ic), .nils, P, .nils, .nils]
theorem vA_weak {view : Int} {nodes : List Int} {P Q : AV} (h : AV.weaker P Q) : AV.weaker (.agg (vA view nodes P)) (.agg (vA view nodes Q)) := fun E v hv => by
  simp only [Rep, RepL, vA] at hv ⊢
  obtain ⟨cs, rfl, v0, r0, e0, h0, v1, r1, e1, h1, v2, r2, e2, h2, v3, r3, e3, h3, hr⟩ := hv
  exact ⟨cs, rfl, v0, r0, e0, h0, v1, r1, e1, h1, v2, r2, e2, h2, v3, r3, e3, h E v3 h3, hr⟩
theorem le_head {n t : Nat} {x y : AV} {r : NL AV} {H : NL ABlk} (h : AV.weaker x y) : AS.le ⟨n, (t, y) :: r, H⟩ ⟨n, (t, x) :: r, H⟩ := ⟨rfl, fun u z hz => by
  simp only [lk] at hz ⊢
  by_cases e : t = u
  · subst e
    simp only [if_true, Option.some.injEq] at hz ⊢
    subst hz
    exact ⟨x, rfl, h⟩
  · simp only [if_neg e] at hz ⊢
    exact ⟨z, hz, AV.weaker_refl _⟩, fun _ => rfl⟩
structure Vt where
  view : Int
  nodes : List Int
  P : AV
  pl : List Pl
  hP : IsP P pl
  hn : nodes.length ≤ 8
  hl : pl.length ≤ 200
def Vt.av (x : Vt) : AV := .agg (vA x.view x.nodes x.P)
theorem Vt.inj (x y : Vt) (h : x.av = y.av) : x = y := by
  obtain ⟨v, nd, P, pl, hP, hn, hl⟩ := x
  obtain ⟨v', nd', P', pl', hP', hn', hl'⟩ := y
  simp only [Vt.av, vA, AV.agg.injEq, List.cons.injEq, AV.int.injEq, AV.list.injEq, true_and, and_true] at h
  obtain ⟨rfl, h2, rfl⟩ := h
  have := map_inj ic_inj h2
  subst this
  have := hP.inj hP'
  subst this
  rfl
def plL (l : List Pl) : AV := .list 2 (l.map Pl.cells)
theorem isP_plL (l : List Pl) : IsP (plL l) l := .inl rfl
def vB (view : Int) (nodes : List Int) (P : AV) : ABlk := { gen := 1, kind := 2, elem := 38, size := 6, inl := false, rows := [vA view nodes P] }
def zB : ABlk := { gen := 1, kind := 2, elem := 38, size := 6, inl := false, rows := [[.int .i64 0, .nils, .nils, .nils, .nils, .nils]] }
def rB (l : List Pl) : ABlk := { gen := l.length, kind := 2, elem := 57, size := 2, inl := true, rows := l.map Pl.cells }
def rC (k : Nat) (A : List (List AV)) : ABlk := { gen := k, kind := 2, elem := 57, size := 2, inl := true, rows := A }
theorem firstRows_full {k : Nat} {A : List (List AV)} (h : A.length = k) : firstRows k A = A := by rw [firstRows_eq]; exact List.take_of_length_le (by omega)
theorem capL {n : Nat} (h : n ≤ 200) : n ≤ 9223372036854775806 := by omega
theorem capB {n : Nat} (h : n ≤ 200) : (n + 1) * 16 ≤ 140737488355328 := by omega
theorem capX {n : Nat} (h : n ≤ 200) : n ≤ maxLen := by simp only [maxLen]; omega
attribute [local simp] runL stepA execA_eq skipA run_ret run_fail run_get run_put run_asm num lk st lk_st putA AS.ev ofValue ofFlat mkv splice fieldAddrA buildA fillA runF gdst pickA unOpA extractA resVs resV pack frzT inlT inlV frzV frzVs frzL frz1 newId AV.cellsOf AV.flat AV.flat2 specOf loadA_runR capA copyA copyTo srcA sliceCA slice3A appendZA extA AV.place lenCA clearA clearTo expG expB3 List.zipWith renL fF handB renB AV.ren backF backL idsOf freshIds refsL refsB AV.refs List.range List.range.loop placesA sliceRows rowsOf convertA sliceArrA sliceA bndA nilCheckA arrayAtA mmA lookupA keyOf keyOK findA keyEqA foundA makeMapA mapUpdateA appendA rowsA indexA partA fieldA retE2 frqT frqV frqVs frqL frq1 reachE blkRefs outE nodupE firstE seqO expB2 expF instA take_len_map
/-! ### Without one -/
def vac (l : List Pl) (id : Int) : List Pl := l.filter fun x => !(x.p == id)
theorem vac_len (l : List Pl) (id : Int) : (vac l id).length ≤ l.length := List.length_filter_le _ _
def encVI (x : Vt × Int) : List AV := [x.1.av, .int .u64 x.2]
theorem encVI_inj {β : Type} {f : Vt × Int → β} : ∀ x y, encVI x = encVI y → f x = f y := fun x y h => by
  simp only [encVI, List.cons.injEq, AV.int.injEq, true_and, and_true] at h
  rw [Prod.ext (Vt.inj _ _ h.1) h.2]
noncomputable def vacrS : SpecFn := mkS encVI fun x => (.agg (vA x.1.view x.1.nodes (plL (vac x.1.pl x.2))), [])
theorem vac_step {l : List Pl} {k : Nat} {x : Pl} (id : Int) (h : l[k]? = some x) : vac (l.take (k + 1)) id = if x.p = id then vac (l.take k) id else vac (l.take k) id ++ [x] := by
  rw [List.take_add_one, h]
  simp only [vac, List.filter_append, Option.toList]
  by_cases e : x.p = id <;> simp [e]
theorem vacr_ok : FnC Try.prog 46 vacrS := by
  refine FnC.walk 46 (fn := Try.f46) Try.func46 rfl (by kernel_rfl) fun x => ?_
  obtain ⟨⟨view, nodes, P, pl, hP, hn, hl⟩, id⟩ := x
  dsimp only
  refine W.weak (σ' := ⟨33, [(0, .agg (vA view nodes (.list 2 (pl.map Pl.cells)))), (1, .int .u64 id)], []⟩) (le_head (vA_weak hP.weak)) ?_
  clear hP P
  repeat (first | refine N.seq ?_ | refine N.blk ?_ | refine W.seq rfl ?_ | refine W.block rfl ?_ | refine W.skip rfl ?_ | refine W.ret rfl ?_ | refine N.nil ?_ | refine N.loop ?_ | refine W.exit rfl ?_ | refine X.seq ?_ | refine X.loop ?_ | refine X.hit ?_ | refine X.pass (by decide) ?_ | refine W.condT rfl (by rfl) ?_ | refine W.condF rfl (by rfl) ?_ | refine W.region tm no_specs rfl (by conv => lhs; simp [vA]) fun _ => ?_ | refine W.regionD tm no_specs rfl (by conv => lhs; simp [vA]) (by conv => lhs; simp) (by kernel_rfl) fun _ => ?_)
  refine W.phantom (t := 5) 2000 57 2 true rfl (by rfl) (by decide) ?_
  refine W.loop rfl (ι := { q : Nat × NL ABlk // q.1 ≤ pl.length ∧ lk q.2 48 = some (vB view nodes (.list 2 (pl.map Pl.cells))) ∧ lk q.2 80 = some zB ∧ lk q.2 2000 = some (rB (vac (pl.take q.1) id)) })
    (fun q => ⟨33, [(1, .int .u64 id), (2, .ptr 48 1 0 0), (4, .ptr 80 1 0 0), (5, .sl 2000 (vac (pl.take q.1.1) id).length 0 (vac (pl.take q.1.1) id).length), (6, .int .i64 (q.1.1 : Nat))], q.1.2⟩) (fun q => pl.length - q.1.1)
    ⟨(0, _), by simp, by rfl, by rfl, by rfl⟩ (AS.le_of rfl ⟨rfl, rfl, rfl, rfl, rfl, trivial⟩ (fun _ => rfl)) ?_
  rintro ⟨⟨k, h⟩, hk, h1, h2, h3⟩
  dsimp only at hk h1 h2 h3 ⊢
  by_cases hk2 : k = pl.length
  · subst hk2
    rw [List.take_length] at h3 ⊢
    refine W.frz 5 rfl (by conv => lhs; simp [frqT, frqV, frqVs, frqL, frq1, h3, rB]) ?_
    repeat (first | refine N.seq ?_ | refine N.blk ?_ | refine W.seq rfl ?_ | refine W.block rfl ?_ | refine W.skip rfl ?_ | refine W.ret rfl ?_ | refine N.nil ?_ | refine N.loop ?_ | refine W.exit rfl ?_ | refine X.seq ?_ | refine X.loop ?_ | refine X.hit ?_ | refine X.pass (by decide) ?_ | refine W.condT rfl (by rfl) ?_ | refine W.condF rfl (by rfl) ?_ | refine W.region tm no_specs rfl (by conv => lhs; simp [h1, h2, h3, vA, vB, zB, rB]) fun _ => ?_ | refine W.regionD tm no_specs rfl (by conv => lhs; simp [h1, h2, h3, vA, vB, zB, rB]) (by conv => lhs; simp) (by kernel_rfl) fun _ => ?_)
    simp only [vA, plL]
    first | exact Ret.dataR rfl (by conv => lhs; simp) (by conv => lhs; simp) (by first | rfl | simp [inlT, inlV]) | fail "no return here"
  · have hlt : k < pl.length := by omega
    obtain ⟨x, hx⟩ := get_lt hlt
    have q1 : (k : Int) < pl.length := by omega
    have q2 : ¬ pl.length ≤ k := by omega
    have hw := w64_succ hlt (capX hl)
    have hst := vac_step id hx
    have hvl : (vac (pl.take k) id).length ≤ 200 := by have := vac_len (pl.take k) id; simp at this; omega
    by_cases e : x.p = id
    · have hb : (x.p != id) = false := by simpa using e
      rw [if_pos e] at hst
      repeat (first | refine N.seq ?_ | refine N.blk ?_ | refine W.seq rfl ?_ | refine W.block rfl ?_ | refine W.skip rfl ?_ | refine W.ret rfl ?_ | refine N.nil ?_ | refine N.loop ?_ | refine W.exit rfl ?_ | refine X.seq ?_ | refine X.loop ?_ | refine X.hit ?_ | refine X.pass (by decide) ?_ | refine W.condT rfl (by rfl) ?_ | refine W.condF rfl (by rfl) ?_ | refine W.region tm no_specs rfl (by conv => lhs; simp [h1, h2, h3, vA, vB, zB, rB, q1, q2, hx, hb, hw, Pl.cells]) fun _ => ?_ | refine W.regionD tm no_specs rfl (by conv => lhs; simp [h1, h2, h3, vA, vB, zB, rB, q1, q2, hx, hb, hw, Pl.cells]) (by conv => lhs; simp) (by kernel_rfl) fun _ => ?_)
      exact ⟨⟨(k + 1, _), hlt, by simp [lk_st, h1, vA, vB], by simp [lk_st, h2, zB], by rw [hst]; simp [lk_st, h3, rB]⟩, by dsimp only; omega, AS.le_of rfl ⟨rfl, rfl, rfl, by rw [hst]; rfl, rfl, trivial⟩ (fun _ => rfl)⟩
    · have hb : (x.p != id) = true := by simpa using e
      rw [if_neg e] at hst
      generalize vac (pl.take k) id = A at hvl h3 hst ⊢
      repeat (first | refine N.seq ?_ | refine N.blk ?_ | refine W.seq rfl ?_ | refine W.block rfl ?_ | refine W.skip rfl ?_ | refine W.ret rfl ?_ | refine N.nil ?_ | refine N.loop ?_ | refine W.exit rfl ?_ | refine X.seq ?_ | refine X.loop ?_ | refine X.hit ?_ | refine X.pass (by decide) ?_ | refine W.condT rfl (by rfl) ?_ | refine W.condF rfl (by rfl) ?_ | refine W.region tm no_specs rfl (by conv => lhs; simp [h1, h2, h3, vA, vB, zB, rB, q1, q2, hx, hb, hw, Pl.cells, capL hvl, capB hvl, maxLen]) fun _ => ?_ | refine W.regionD tm no_specs rfl (by conv => lhs; simp [h1, h2, h3, vA, vB, zB, rB, q1, q2, hx, hb, hw, Pl.cells, capL hvl, capB hvl, maxLen]) (by conv => lhs; simp) (by kernel_rfl) fun _ => ?_)
      exact ⟨⟨(k + 1, _), hlt, by simp [lk_st, h1, vA, vB], by simp [lk_st, h2, zB], by rw [hst]; simp [lk_st, h3, rB, Pl.cells]⟩, by dsimp only; omega, AS.le_of rfl ⟨rfl, rfl, rfl, by rw [hst]; simp [lk], rfl, trivial⟩ (fun _ => rfl)⟩
theorem vacrS_eq (view : Int) (nodes : List Int) (P : AV) (pl : List Pl) (id : Int) (hP : IsP P pl) (hn : nodes.length ≤ 8) (hl : pl.length ≤ 200) :
    vacrS [.agg [.int .i64 view, .list 1 (nodes.map ic), .nils, P, .nils, .nils], .int .u64 id] [] = some (.agg [.int .i64 view, .list 1 (nodes.map ic), .nils, .list 2 ((vac pl id).map Pl.cells), .nils, .nils], []) :=
  mkS_eq (enc := encVI) encVI_inj (⟨view, nodes, P, pl, hP, hn, hl⟩, id)
/-! ### With one more -/
def less (l : List Pl) (id : Int) : Nat := (l.takeWhile fun x => decide (x.p < id)).length
theorem less_le (l : List Pl) (id : Int) : less l id ≤ l.length := (List.takeWhile_sublist _).length_le
theorem less_lt {l : List Pl} {id : Int} {k : Nat} {x : Pl} (hk : k < less l id) (hx : l[k]? = some x) : x.p < id := by
  induction l generalizing k with
  | nil => simp at hx
  | cons a r ih =>
    by_cases h : a.p < id
    · have e : less (a :: r) id = less r id + 1 := by simp [less, List.takeWhile_cons, h]
      cases k with
      | zero =>
        simp only [List.getElem?_cons_zero, Option.some.injEq] at hx
        subst hx
        exact h
      | succ k =>
        rw [List.getElem?_cons_succ] at hx
        exact ih (by omega) hx
    · have e : less (a :: r) id = 0 := by simp [less, List.takeWhile_cons, h]
      omega
theorem less_ge {l : List Pl} {id : Int} {x : Pl} (hx : l[less l id]? = some x) : ¬ x.p < id := by
  induction l with
  | nil => simp at hx
  | cons a r ih =>
    by_cases h : a.p < id
    · have e : less (a :: r) id = less r id + 1 := by simp [less, List.takeWhile_cons, h]
      rw [e, List.getElem?_cons_succ] at hx
      exact ih hx
    · have e : less (a :: r) id = 0 := by simp [less, List.takeWhile_cons, h]
      rw [e] at hx
      simp only [List.getElem?_cons_zero, Option.some.injEq] at hx
      subst hx
      exact h
def put (L : List Pl) (id n : Int) : List Pl := L.take (less L id) ++ ⟨id, n⟩ :: L.drop (less L id)
def asg (pl : List Pl) (id n : Int) : List Pl := if id = 0 then pl else put (vac pl id) id n
theorem asg_len (pl : List Pl) (id n : Int) : (asg pl id n).length ≤ pl.length + 1 := by
  unfold asg
  split
  · omega
  · have := vac_len pl id
    have := less_le (vac pl id) id
    simp [put]; omega
noncomputable def ar_specs : NL Spec := [(46, ⟨1, vacrS⟩)]
theorem ar_specs_ok : ∀ p ∈ ar_specs, FnC Try.prog p.1 p.2.fn := by
  simp only [ar_specs, List.mem_cons, List.not_mem_nil, or_false]
  rintro p rfl
  exact vacr_ok
attribute [local simp] ar_specs
def encVIN (x : Vt × Int × Int) : List AV × List ABlk := ([x.1.av, .int .u64 x.2.1, .int .i64 x.2.2], [])
theorem encVIN_inj {β : Type} {f : Vt × Int × Int → β} : ∀ x y, encVIN x = encVIN y → f x = f y := fun x y h => by
  simp only [encVIN, Prod.mk.injEq, List.cons.injEq, AV.int.injEq, true_and, and_true] at h
  rw [Prod.ext (Vt.inj _ _ h.1) (Prod.ext h.2.1 h.2.2)]
noncomputable def asgrS : SpecFn := mkS2 encVIN fun x => (.agg (vA x.1.view x.1.nodes (plL (asg x.1.pl x.2.1 x.2.2))), [])
theorem asgrS_eq (view : Int) (nodes : List Int) (P : AV) (pl : List Pl) (id n : Int) (hP : IsP P pl) (hn : nodes.length ≤ 8) (hl : pl.length ≤ 200) :
    asgrS [.agg [.int .i64 view, .list 1 (nodes.map ic), .nils, P, .nils, .nils], .int .u64 id, .int .i64 n] [] = some (.agg [.int .i64 view, .list 1 (nodes.map ic), .nils, .list 2 ((asg pl id n).map Pl.cells), .nils, .nils], []) :=
  mkS2_eq (enc := encVIN) encVIN_inj (⟨view, nodes, P, pl, hP, hn, hl⟩, id, n)
theorem asgr_ok : FnC Try.prog 24 asgrS := by
  refine FnC.walkV 24 (fn := Try.f24) Try.func24 rfl (by kernel_rfl) (fun x b hb => by simp [encVIN] at hb) fun x => ?_
  obtain ⟨⟨view, nodes, P, pl, hP, hn, hl⟩, id, n⟩ := x
  dsimp only
  refine V.weak (σ' := ⟨54, [(0, .agg (vA view nodes (.list 2 (pl.map Pl.cells)))), (1, .int .u64 id), (2, .int .i64 n)], []⟩) (le_head (vA_weak hP.weak)) ?_
  change V _ (RetB _ _ 0 _ _) _ _ _
  clear hP P
  by_cases h0 : id = 0
  · have hb : (id == 0) = true := by simpa using h0
    have ha : asg pl id n = pl := by rw [asg, if_pos h0]
    repeat (first | refine NV.seq ?_ | refine NV.blk ?_ | refine V.seq rfl ?_ | refine V.block rfl ?_ | refine V.skip rfl ?_ | refine V.ret rfl ?_ | refine NV.nil ?_ | refine NV.loop ?_ | refine V.exit rfl ?_ | refine XV.seq ?_ | refine XV.loop ?_ | refine XV.hit ?_ | refine XV.pass (by decide) ?_ | refine V.condT rfl (by rfl) ?_ | refine V.condF rfl (by rfl) ?_ | refine V.region tm ar_specs_ok rfl (by conv => lhs; simp [vA, hb]) fun _ => ?_ | refine V.regionD tm ar_specs_ok rfl (by conv => lhs; simp [vA, hb]) (by conv => lhs; simp) (by kernel_rfl) fun _ => ?_)
    simp only [vA, plL, ha]
    first | exact retE2_ok true (by conv => lhs; simp [retE2, frqT, frqV, frqVs, frqL, frq1, reachE, blkRefs, outE, nodupE, firstE, seqO, expB2, expF, refsB, refsL, AV.refs, AV.ren, renL, renB, List.range, List.range.loop, resVs, resV, pack]) | fail "no return here"
  · have hb : (id == 0) = false := by simpa using h0
    have hv := vacrS_eq view nodes (.list 2 (pl.map Pl.cells)) pl id (isP_plL pl) hn hl
    have ha : asg pl id n = put (vac pl id) id n := by rw [asg, if_neg h0]
    have hL : (vac pl id).length ≤ 200 := Nat.le_trans (vac_len pl id) hl
    simp only [ha]
    generalize vac pl id = L at hv hL ⊢
    have hm := less_le L id
    repeat (first | refine NV.seq ?_ | refine NV.blk ?_ | refine V.seq rfl ?_ | refine V.block rfl ?_ | refine V.skip rfl ?_ | refine V.ret rfl ?_ | refine NV.nil ?_ | refine NV.loop ?_ | refine V.exit rfl ?_ | refine XV.seq ?_ | refine XV.loop ?_ | refine XV.hit ?_ | refine XV.pass (by decide) ?_ | refine V.condT rfl (by rfl) ?_ | refine V.condF rfl (by rfl) ?_ | refine V.region tm ar_specs_ok rfl (by conv => lhs; simp [vA, hb, hv]) fun _ => ?_ | refine V.regionD tm ar_specs_ok rfl (by conv => lhs; simp [vA, hb, hv]) (by conv => lhs; simp) (by kernel_rfl) fun _ => ?_)
    refine V.phantom (t := 7) 2000 57 2 rfl (by rfl) (by decide) ?_
    refine V.loop rfl (ι := { q : Nat × NL ABlk // q.1 ≤ less L id ∧ lk q.2 64 = some (vB view nodes (.list 2 (L.map Pl.cells))) ∧ lk q.2 112 = some zB ∧ lk q.2 2000 = some (rC q.1 ((L.take q.1).map Pl.cells)) })
      (fun q => ⟨54, [(1, .int .u64 id), (2, .int .i64 n), (3, .ptr 64 1 0 0), (6, .ptr 112 1 0 0), (7, .sl 2000 q.1.1 0 q.1.1), (8, .int .i64 (q.1.1 : Nat))], q.1.2⟩) (fun q => less L id - q.1.1)
      ⟨(0, _), by simp, by rfl, by rfl, by rfl⟩ (AS.le_of rfl ⟨rfl, rfl, rfl, rfl, rfl, rfl, trivial⟩ (fun _ => rfl)) ?_
    rintro ⟨⟨k, h⟩, hk, h1, h2, h3⟩
    dsimp only at hk h1 h2 h3 ⊢
    obtain ⟨A, hA⟩ : ∃ A, (L.take k).map Pl.cells = A := ⟨_, rfl⟩
    have hkl : A.length = k := by rw [← hA]; simp; omega
    have hfr := firstRows_full hkl
    rw [hA] at h3
    by_cases hk2 : k = less L id
    · have hw : k ≤ 200 := by omega
      have hkL : k ≤ L.length := by omega
      have hta : List.take k A = A := List.take_of_length_le (by omega)
      have hda : List.drop (k + 1) A = [] := List.drop_of_length_le (by omega)
      have htb : ∀ y : List AV, List.take (k + 1) (A ++ [y]) = A ++ [y] := fun y => List.take_of_length_le (by simp; omega)
      have hdb : ∀ (y : List AV) m, List.drop (k + 1 + m) (A ++ [y]) = [] := fun y m => List.drop_of_length_le (by simp; omega)
      have hfb : ∀ y : List AV, firstRows (k + 1) (A ++ [y]) = A ++ [y] := fun y => firstRows_full (by simp; omega)
      have hcl : (k + 1 + (L.length - k)) * 16 ≤ 140737488355328 := by omega
      have hcm : k + 1 + (L.length - k) ≤ maxLen := by simp only [maxLen]; omega
      have hck : (k + 1) * 16 ≤ 140737488355328 := by omega
      have hm1 : 1 ≤ maxLen := by simp [maxLen]
      have hput : (put L id n).map Pl.cells = A ++ [.int .u64 id, .int .i64 n] :: List.drop k (L.map Pl.cells) := by
        simp only [put, ← hk2, List.map_append, List.map_cons, List.map_drop, hA, Pl.cells]
      have htl : List.take (k + 1 + (L.length - k)) (A ++ [.int .u64 id, .int .i64 n] :: List.drop k (L.map Pl.cells)) = A ++ [.int .u64 id, .int .i64 n] :: List.drop k (L.map Pl.cells) := List.take_of_length_le (by simp; omega)
      have hle : k + 1 + (L.length - k) ≤ k + (L.length - k + 1) := by omega
      have hcn : k + 1 ≤ maxLen := by simp only [maxLen]; omega
      rcases Nat.lt_or_ge k L.length with hlt | hge
      · obtain ⟨x, hx⟩ := get_lt hlt
        have hxp : ¬ x.p < id := less_ge (by rw [← hk2]; exact hx)
        have q1 : (k : Int) < L.length := by omega
        have q2 : ¬ L.length ≤ k := by omega
        refine V.caps (t := 7) rfl h3 rfl fun cap hc1 hc2 => ?_
        by_cases c1 : k + 1 ≤ cap
        · by_cases c2 : k + 1 + (L.length - k) ≤ cap
          · repeat (first | refine NV.seq ?_ | refine NV.blk ?_ | refine V.seq rfl ?_ | refine V.block rfl ?_ | refine V.skip rfl ?_ | refine V.ret rfl ?_ | refine NV.nil ?_ | refine NV.loop ?_ | refine V.exit rfl ?_ | refine XV.seq ?_ | refine XV.loop ?_ | refine XV.hit ?_ | refine XV.pass (by decide) ?_ | refine V.condT rfl (by rfl) ?_ | refine V.condF rfl (by rfl) ?_ | refine V.region tm ar_specs_ok rfl (by conv => lhs; simp [h1, h2, h3, vA, vB, zB, rC, q1, q2, hx, hxp, Pl.cells, hkl, hfr, capL hw, capB hw, hkL, hta, hda, htb, hdb, hfb, hcl, hcm, hck, hcn, hm1, c1, c2]) fun _ => ?_ | refine V.regionD tm ar_specs_ok rfl (by conv => lhs; simp [h1, h2, h3, vA, vB, zB, rC, q1, q2, hx, hxp, Pl.cells, hkl, hfr, capL hw, capB hw, hkL, hta, hda, htb, hdb, hfb, hcl, hcm, hck, hcn, hm1, c1, c2]) (by conv => lhs; simp) (by kernel_rfl) fun _ => ?_)
            simp only [vA, plL, hput]
            first | exact retE2_ok true (by conv => lhs; simp [retE2, frqT, frqV, frqVs, frqL, frq1, reachE, blkRefs, outE, nodupE, firstE, seqO, expB2, expF, refsB, refsL, AV.refs, AV.ren, renL, renB, List.range, List.range.loop, resVs, resV, pack, htl, hle, hkl]) | fail "no return here"
          · have c2' : cap < k + 1 + (L.length - k) := by omega
            repeat (first | refine NV.seq ?_ | refine NV.blk ?_ | refine V.seq rfl ?_ | refine V.block rfl ?_ | refine V.skip rfl ?_ | refine V.ret rfl ?_ | refine NV.nil ?_ | refine NV.loop ?_ | refine V.exit rfl ?_ | refine XV.seq ?_ | refine XV.loop ?_ | refine XV.hit ?_ | refine XV.pass (by decide) ?_ | refine V.condT rfl (by rfl) ?_ | refine V.condF rfl (by rfl) ?_ | refine V.region tm ar_specs_ok rfl (by conv => lhs; simp [h1, h2, h3, vA, vB, zB, rC, q1, q2, hx, hxp, Pl.cells, hkl, hfr, capL hw, capB hw, hkL, hta, hda, htb, hdb, hfb, hcl, hcm, hck, hcn, hm1, c1, c2, c2']) fun _ => ?_ | refine V.regionD tm ar_specs_ok rfl (by conv => lhs; simp [h1, h2, h3, vA, vB, zB, rC, q1, q2, hx, hxp, Pl.cells, hkl, hfr, capL hw, capB hw, hkL, hta, hda, htb, hdb, hfb, hcl, hcm, hck, hcn, hm1, c1, c2, c2']) (by conv => lhs; simp) (by kernel_rfl) fun _ => ?_)
            simp only [vA, plL, hput]
            first | exact retE2_ok true (by conv => lhs; simp [retE2, frqT, frqV, frqVs, frqL, frq1, reachE, blkRefs, outE, nodupE, firstE, seqO, expB2, expF, refsB, refsL, AV.refs, AV.ren, renL, renB, List.range, List.range.loop, resVs, resV, pack, htl, hle, hkl]) | fail "no return here"
        · have c1' : cap < k + 1 := by omega
          repeat (first | refine NV.seq ?_ | refine NV.blk ?_ | refine V.seq rfl ?_ | refine V.block rfl ?_ | refine V.skip rfl ?_ | refine V.ret rfl ?_ | refine NV.nil ?_ | refine NV.loop ?_ | refine V.exit rfl ?_ | refine XV.seq ?_ | refine XV.loop ?_ | refine XV.hit ?_ | refine XV.pass (by decide) ?_ | refine V.condT rfl (by rfl) ?_ | refine V.condF rfl (by rfl) ?_ | refine V.region tm ar_specs_ok rfl (by conv => lhs; simp [h1, h2, h3, vA, vB, zB, rC, q1, q2, hx, hxp, Pl.cells, hkl, hfr, capL hw, capB hw, hkL, hta, hda, htb, hdb, hfb, hcl, hcm, hck, hcn, hm1, c1, c1']) fun _ => ?_ | refine V.regionD tm ar_specs_ok rfl (by conv => lhs; simp [h1, h2, h3, vA, vB, zB, rC, q1, q2, hx, hxp, Pl.cells, hkl, hfr, capL hw, capB hw, hkL, hta, hda, htb, hdb, hfb, hcl, hcm, hck, hcn, hm1, c1, c1']) (by conv => lhs; simp) (by kernel_rfl) fun _ => ?_)
          simp only [vA, plL, hput]
          first | exact retE2_ok true (by conv => lhs; simp [retE2, frqT, frqV, frqVs, frqL, frq1, reachE, blkRefs, outE, nodupE, firstE, seqO, expB2, expF, refsB, refsL, AV.refs, AV.ren, renL, renB, List.range, List.range.loop, resVs, resV, pack, htl, hle, hkl]) | fail "no return here"
      · have q1 : ¬ (k : Int) < L.length := by omega
        refine V.caps (t := 7) rfl h3 rfl fun cap hc1 hc2 => ?_
        by_cases c1 : k + 1 ≤ cap
        · by_cases c2 : k + 1 + (L.length - k) ≤ cap
          · repeat (first | refine NV.seq ?_ | refine NV.blk ?_ | refine V.seq rfl ?_ | refine V.block rfl ?_ | refine V.skip rfl ?_ | refine V.ret rfl ?_ | refine NV.nil ?_ | refine NV.loop ?_ | refine V.exit rfl ?_ | refine XV.seq ?_ | refine XV.loop ?_ | refine XV.hit ?_ | refine XV.pass (by decide) ?_ | refine V.condT rfl (by rfl) ?_ | refine V.condF rfl (by rfl) ?_ | refine V.region tm ar_specs_ok rfl (by conv => lhs; simp [h1, h2, h3, vA, vB, zB, rC, q1, Pl.cells, hkl, hfr, capL hw, capB hw, hkL, hta, hda, htb, hdb, hfb, hcl, hcm, hck, hcn, hm1, c1, c2]) fun _ => ?_ | refine V.regionD tm ar_specs_ok rfl (by conv => lhs; simp [h1, h2, h3, vA, vB, zB, rC, q1, Pl.cells, hkl, hfr, capL hw, capB hw, hkL, hta, hda, htb, hdb, hfb, hcl, hcm, hck, hcn, hm1, c1, c2]) (by conv => lhs; simp) (by kernel_rfl) fun _ => ?_)
            simp only [vA, plL, hput]
            first | exact retE2_ok true (by conv => lhs; simp [retE2, frqT, frqV, frqVs, frqL, frq1, reachE, blkRefs, outE, nodupE, firstE, seqO, expB2, expF, refsB, refsL, AV.refs, AV.ren, renL, renB, List.range, List.range.loop, resVs, resV, pack, htl, hle, hkl]) | fail "no return here"
          · have c2' : cap < k + 1 + (L.length - k) := by omega
            repeat (first | refine NV.seq ?_ | refine NV.blk ?_ | refine V.seq rfl ?_ | refine V.block rfl ?_ | refine V.skip rfl ?_ | refine V.ret rfl ?_ | refine NV.nil ?_ | refine NV.loop ?_ | refine V.exit rfl ?_ | refine XV.seq ?_ | refine XV.loop ?_ | refine XV.hit ?_ | refine XV.pass (by decide) ?_ | refine V.condT rfl (by rfl) ?_ | refine V.condF rfl (by rfl) ?_ | refine V.region tm ar_specs_ok rfl (by conv => lhs; simp [h1, h2, h3, vA, vB, zB, rC, q1, Pl.cells, hkl, hfr, capL hw, capB hw, hkL, hta, hda, htb, hdb, hfb, hcl, hcm, hck, hcn, hm1, c1, c2, c2']) fun _ => ?_ | refine V.regionD tm ar_specs_ok rfl (by conv => lhs; simp [h1, h2, h3, vA, vB, zB, rC, q1, Pl.cells, hkl, hfr, capL hw, capB hw, hkL, hta, hda, htb, hdb, hfb, hcl, hcm, hck, hcn, hm1, c1, c2, c2']) (by conv => lhs; simp) (by kernel_rfl) fun _ => ?_)
            simp only [vA, plL, hput]
            first | exact retE2_ok true (by conv => lhs; simp [retE2, frqT, frqV, frqVs, frqL, frq1, reachE, blkRefs, outE, nodupE, firstE, seqO, expB2, expF, refsB, refsL, AV.refs, AV.ren, renL, renB, List.range, List.range.loop, resVs, resV, pack, htl, hle, hkl]) | fail "no return here"
        · have c1' : cap < k + 1 := by omega
          repeat (first | refine NV.seq ?_ | refine NV.blk ?_ | refine V.seq rfl ?_ | refine V.block rfl ?_ | refine V.skip rfl ?_ | refine V.ret rfl ?_ | refine NV.nil ?_ | refine NV.loop ?_ | refine V.exit rfl ?_ | refine XV.seq ?_ | refine XV.loop ?_ | refine XV.hit ?_ | refine XV.pass (by decide) ?_ | refine V.condT rfl (by rfl) ?_ | refine V.condF rfl (by rfl) ?_ | refine V.region tm ar_specs_ok rfl (by conv => lhs; simp [h1, h2, h3, vA, vB, zB, rC, q1, Pl.cells, hkl, hfr, capL hw, capB hw, hkL, hta, hda, htb, hdb, hfb, hcl, hcm, hck, hcn, hm1, c1, c1']) fun _ => ?_ | refine V.regionD tm ar_specs_ok rfl (by conv => lhs; simp [h1, h2, h3, vA, vB, zB, rC, q1, Pl.cells, hkl, hfr, capL hw, capB hw, hkL, hta, hda, htb, hdb, hfb, hcl, hcm, hck, hcn, hm1, c1, c1']) (by conv => lhs; simp) (by kernel_rfl) fun _ => ?_)
          simp only [vA, plL, hput]
          first | exact retE2_ok true (by conv => lhs; simp [retE2, frqT, frqV, frqVs, frqL, frq1, reachE, blkRefs, outE, nodupE, firstE, seqO, expB2, expF, refsB, refsL, AV.refs, AV.ren, renL, renB, List.range, List.range.loop, resVs, resV, pack, htl, hle, hkl]) | fail "no return here"
    · have hlt : k < less L id := by omega
      have hlt' : k < L.length := by omega
      obtain ⟨x, hx⟩ := get_lt hlt'
      have hxp := less_lt hlt hx
      have q1 : (k : Int) < L.length := by omega
      have q2 : ¬ L.length ≤ k := by omega
      have hw := w64_succ hlt' (capX hL)
      have c1 : k ≤ 200 := by omega
      have hst : (L.take (k + 1)).map Pl.cells = A ++ [x.cells] := by rw [List.take_add_one, hx, ← hA]; simp
      simp only [List.map_take] at hst
      repeat (first | refine NV.seq ?_ | refine NV.blk ?_ | refine V.seq rfl ?_ | refine V.block rfl ?_ | refine V.skip rfl ?_ | refine V.ret rfl ?_ | refine NV.nil ?_ | refine NV.loop ?_ | refine V.exit rfl ?_ | refine XV.seq ?_ | refine XV.loop ?_ | refine XV.hit ?_ | refine XV.pass (by decide) ?_ | refine V.condT rfl (by rfl) ?_ | refine V.condF rfl (by rfl) ?_ | refine V.region tm ar_specs_ok rfl (by conv => lhs; simp [h1, h2, h3, vA, vB, zB, rC, q1, q2, hx, hxp, hw, Pl.cells, hkl, hfr, capL c1, capB c1, maxLen]) fun _ => ?_ | refine V.regionD tm ar_specs_ok rfl (by conv => lhs; simp [h1, h2, h3, vA, vB, zB, rC, q1, q2, hx, hxp, hw, Pl.cells, hkl, hfr, capL c1, capB c1, maxLen]) (by conv => lhs; simp) (by kernel_rfl) fun _ => ?_)
      exact ⟨⟨(k + 1, _), hlt, by simp [lk_st, h1, vA, vB], by simp [lk_st, h2, zB], by simp [lk_st, h3, rC, Pl.cells, hst]⟩, by dsimp only; omega, AS.le_of rfl ⟨rfl, rfl, rfl, rfl, rfl, rfl, trivial⟩ (fun _ => rfl)⟩
end Go.Abs.Po
namespace Go.Abs.Po
open Go Go.Proofs Go.Abs
set_option maxRecDepth 100000
set_option maxHeartbeats 4000000
set_option linter.unusedSimpArgs false
set_option linter.unusedVariables false
structure Ld where
  node : Int
  now : Int
  avg : Int
  deriving DecidableEq, Inhabited
def Ld.cells (p : Ld) : List AV := [.int .i64 p.node, .int .i64 p.now, .int .i64 p.avg]
theorem Ld.inj (a b : Ld) (h : a.cells = b.cells) : a = b := by
  cases a; cases b
  simp only [Ld.cells, List.cons.injEq, AV.int.injEq] at h
  obtain ⟨⟨_, rfl⟩, ⟨_, rfl⟩, ⟨_, rfl⟩, _⟩ := h
  rfl
def encLs (l : List Ld) : List AV := [.list 3 (l.map Ld.cells)]
theorem encLs_inj {β : Type} {f : List Ld → β} : ∀ x y, encLs x = encLs y → f x = f y := fun x y h => by
  simp only [encLs, List.cons.injEq, AV.list.injEq, true_and, and_true] at h
  rw [map_inj Ld.inj h]
attribute [local simp] runL stepA execA_eq skipA run_ret run_fail run_get run_put run_asm num lk st lk_st putA AS.ev ofValue ofFlat mkv splice fieldAddrA buildA fillA runF gdst pickA unOpA extractA resVs resV pack frzT inlT inlV frzV frzVs frzL frz1 newId AV.cellsOf AV.flat AV.flat2 specOf loadA_runR capA copyA copyTo srcA sliceCA slice3A appendZA extA AV.place lenCA clearA clearTo expG expB3 List.zipWith renL fF handB renB AV.ren backF backL idsOf freshIds refsL refsB AV.refs List.range List.range.loop placesA sliceRows rowsOf convertA sliceArrA sliceA bndA nilCheckA arrayAtA mmA lookupA keyOf keyOK findA keyEqA foundA makeMapA mapUpdateA appendA rowsA indexA partA fieldA retE2 frqT frqV frqVs frqL frq1 reachE blkRefs outE nodupE firstE seqO expB2 expF Ld.cells
/-! ## The two orders -/
def enc2 (p : Int × Int) : List AV := [.int .i64 p.1, .int .i64 p.2]
theorem enc2_inj {β : Type} {f : Int × Int → β} : ∀ x y, enc2 x = enc2 y → f x = f y := fun x y h => by
  simp only [enc2, List.cons.injEq, AV.int.injEq, true_and, and_true] at h
  rw [Prod.ext h.1 h.2]
noncomputable def gtS : SpecFn := mkS enc2 fun p => (.bool (decide (p.1 > p.2)), [])
theorem gtS_eq (a b : Int) : gtS [.int .i64 a, .int .i64 b] [] = some (.bool (decide (a > b)), []) := mkS_eq enc2_inj (a, b)
noncomputable def ltS : SpecFn := mkS enc2 fun p => (.bool (decide (p.1 < p.2)), [])
theorem ltS_eq (a b : Int) : ltS [.int .i64 a, .int .i64 b] [] = some (.bool (decide (a < b)), []) := mkS_eq enc2_inj (a, b)
theorem gt_ok : FnC Try.prog 54 gtS := by
  refine FnC.walk 54 (fn := Try.f54) Try.func54 rfl (by kernel_rfl) fun p => ?_
  change W _ _ _ _ ⟨8, [(0, .int .i64 p.1), (1, .int .i64 p.2)], []⟩
  repeat (first | refine N.seq ?_ | refine N.blk ?_ | refine W.seq rfl ?_ | refine W.block rfl ?_ | refine W.skip rfl ?_ | refine W.ret rfl ?_ | refine N.nil ?_ | refine N.loop ?_ | refine W.exit rfl ?_ | refine X.seq ?_ | refine X.loop ?_ | refine X.hit ?_ | refine X.pass (by decide) ?_ | refine W.region tm no_specs rfl (by conv => lhs; simp) fun _ => ?_ | refine W.regionD tm no_specs rfl (by conv => lhs; simp) (by conv => lhs; simp) (by kernel_rfl) fun _ => ?_)
  first | exact Ret.dataR rfl (by conv => lhs; simp) (by conv => lhs; simp) (by first | rfl | simp [inlT, inlV]) | fail "no return here"
theorem lt_ok : FnC Try.prog 55 ltS := by
  refine FnC.walk 55 (fn := Try.f55) Try.func55 rfl (by kernel_rfl) fun p => ?_
  change W _ _ _ _ ⟨8, [(0, .int .i64 p.1), (1, .int .i64 p.2)], []⟩
  repeat (first | refine N.seq ?_ | refine N.blk ?_ | refine W.seq rfl ?_ | refine W.block rfl ?_ | refine W.skip rfl ?_ | refine W.ret rfl ?_ | refine N.nil ?_ | refine N.loop ?_ | refine W.exit rfl ?_ | refine X.seq ?_ | refine X.loop ?_ | refine X.hit ?_ | refine X.pass (by decide) ?_ | refine W.region tm no_specs rfl (by conv => lhs; simp) fun _ => ?_ | refine W.regionD tm no_specs rfl (by conv => lhs; simp) (by conv => lhs; simp) (by kernel_rfl) fun _ => ?_)
  first | exact Ret.dataR rfl (by conv => lhs; simp) (by conv => lhs; simp) (by first | rfl | simp [inlT, inlV]) | fail "no return here"
def up (a x : Ld) : Ld := if x.avg > a.avg then x else a
def dn (a x : Ld) : Ld := if x.avg < a.avg then x else a
def Ld.zero : Ld := ⟨0, 0, 0⟩
def pick (l : List Ld) : Ld × Ld × Bool := match l with
  | p :: q :: r => ((p :: q :: r).foldl up p, (p :: q :: r).foldl dn p, true)
  | _ => (Ld.zero, Ld.zero, false)
def pickV (l : List Ld) : AV := .tup [.agg (pick l).1.cells, .agg (pick l).2.1.cells, .bool (pick l).2.2]
theorem fold_step {α : Type} (f : α → Ld → α) (z : α) {l : List Ld} {i : Nat} {x : Ld} (hx : l[i]? = some x) : (l.take (i + 1)).foldl f z = f ((l.take i).foldl f z) x := by
  rw [List.take_add_one, hx]
  simp
noncomputable def refPickS : SpecFn := mkS encLs fun l => (pickV l, [])
theorem refPickS_eq (l : List Ld) : refPickS [.list 3 (l.map Ld.cells)] [] = some (pickV l, []) := mkS_eq encLs_inj l
def cell (x : Ld) : ABlk := { gen := 1, kind := 2, elem := 29, size := 3, rows := [x.cells] }
theorem refPick_ok : FnC Try.prog 37 refPickS := by
  refine FnC.walk 37 (fn := Try.f37) Try.func37 rfl (by kernel_rfl) fun l => ?_
  change W _ _ _ _ ⟨51, [(0, .list 3 (l.map Ld.cells))], []⟩
  repeat (first | refine N.seq ?_ | refine N.blk ?_ | refine W.seq rfl ?_ | refine W.block rfl ?_ | refine W.skip rfl ?_ | refine W.ret rfl ?_ | refine N.nil ?_ | refine N.loop ?_ | refine W.exit rfl ?_ | refine X.seq ?_ | refine X.loop ?_ | refine X.hit ?_ | refine X.pass (by decide) ?_)
  refine W.region tm no_specs rfl (by conv => lhs; simp) fun _ => ?_
  repeat (first | refine N.seq ?_ | refine N.blk ?_ | refine W.seq rfl ?_ | refine W.block rfl ?_ | refine W.skip rfl ?_ | refine W.ret rfl ?_ | refine N.nil ?_ | refine N.loop ?_ | refine W.exit rfl ?_ | refine X.seq ?_ | refine X.loop ?_ | refine X.hit ?_ | refine X.pass (by decide) ?_)
  refine W.region tm no_specs rfl (by conv => lhs; simp) fun hlen => ?_
  repeat (first | refine N.seq ?_ | refine N.blk ?_ | refine W.seq rfl ?_ | refine W.block rfl ?_ | refine W.skip rfl ?_ | refine W.ret rfl ?_ | refine N.nil ?_ | refine N.loop ?_ | refine W.exit rfl ?_ | refine X.seq ?_ | refine X.loop ?_ | refine X.hit ?_ | refine X.pass (by decide) ?_)
  refine W.cond rfl (by rfl) (fun hb => ?_) (fun hb => ?_)
  · have hz : pick l = (Ld.zero, Ld.zero, false) := by
      simp only [decide_eq_true_eq] at hb
      match l, hb with
      | [], _ => rfl
      | [_], _ => rfl
      | _ :: _ :: _, hb => simp at hb; omega
    repeat (first | refine N.seq ?_ | refine N.blk ?_ | refine W.seq rfl ?_ | refine W.block rfl ?_ | refine W.skip rfl ?_ | refine W.ret rfl ?_ | refine N.nil ?_ | refine N.loop ?_ | refine W.exit rfl ?_ | refine X.seq ?_ | refine X.loop ?_ | refine X.hit ?_ | refine X.pass (by decide) ?_ | refine W.region tm no_specs rfl (by conv => lhs; simp) fun _ => ?_ | refine W.regionD tm no_specs rfl (by conv => lhs; simp) (by conv => lhs; simp) (by kernel_rfl) fun _ => ?_)
    simp only [pickV, hz, Ld.cells, Ld.zero]
    first | exact Ret.dataR rfl (by conv => lhs; simp) (by conv => lhs; simp) (by first | rfl | simp [inlT, inlV]) | fail "no return here"
  · simp only [decide_eq_false_iff_not] at hb
    have hl2 : 2 ≤ l.length := by omega
    obtain ⟨p, h0⟩ := get_lt (l := l) (i := 0) (by omega)
    have hup : up p p = p := by simp [up]
    have hdn : dn p p = p := by simp [dn]
    repeat (first | refine N.seq ?_ | refine N.blk ?_ | refine W.seq rfl ?_ | refine W.block rfl ?_ | refine W.skip rfl ?_ | refine W.ret rfl ?_ | refine N.nil ?_ | refine N.loop ?_ | refine W.exit rfl ?_ | refine X.seq ?_ | refine X.loop ?_ | refine X.hit ?_ | refine X.pass (by decide) ?_ | refine W.region tm no_specs rfl (by conv => lhs; simp [h0]) fun _ => ?_ | refine W.regionD tm no_specs rfl (by conv => lhs; simp [h0]) (by conv => lhs; simp) (by kernel_rfl) fun _ => ?_)
    refine W.loop rfl (ι := { q : Nat × NL ABlk // 1 ≤ q.1 ∧ q.1 ≤ l.length ∧ lk q.2 48 = some (cell Ld.zero) ∧ lk q.2 64 = some (cell Ld.zero) ∧ lk q.2 96 = some (cell ((l.take q.1).foldl up p)) ∧ lk q.2 112 = some (cell ((l.take q.1).foldl dn p)) })
      (fun q => ⟨51, [(0, .list 3 (l.map Ld.cells)), (2, .ptr 48 1 0 0), (3, .ptr 64 1 0 0), (5, .ptr 96 1 0 0), (6, .ptr 112 1 0 0), (7, .int .i64 q.1.1)], q.1.2⟩) (fun q => l.length - q.1.1)
      ⟨(1, _), by dsimp only; omega, by dsimp only; omega, by rfl, by rfl, ?a, ?b⟩ (AS.le_of rfl (by simp [tmpsIn]) (fun _ => rfl)) ?_
    case a => rw [fold_step up p h0]; simp only [List.take_zero, List.foldl_nil, hup]; rfl
    case b => rw [fold_step dn p h0]; simp only [List.take_zero, List.foldl_nil, hdn]; rfl
    rintro ⟨⟨i, h⟩, hi1, hi, h48, h64, h96, h112⟩
    dsimp only at hi1 hi h48 h64 h96 h112 ⊢
    generalize ha : (l.take i).foldl up p = a at h96
    generalize hc : (l.take i).foldl dn p = c at h112
    repeat (first | refine N.seq ?_ | refine N.blk ?_ | refine W.seq rfl ?_ | refine W.block rfl ?_ | refine W.skip rfl ?_ | refine W.ret rfl ?_ | refine N.nil ?_ | refine N.loop ?_ | refine W.exit rfl ?_ | refine X.seq ?_ | refine X.loop ?_ | refine X.hit ?_ | refine X.pass (by decide) ?_ | refine W.region tm no_specs rfl (by conv => lhs; simp) fun _ => ?_ | refine W.regionD tm no_specs rfl (by conv => lhs; simp) (by conv => lhs; simp) (by kernel_rfl) fun _ => ?_)
    refine W.cond rfl (by rfl) (fun hb => ?_) (fun hb => ?_)
    · simp only [decide_eq_true_eq] at hb
      have hi' : i < l.length := by omega
      obtain ⟨x, hli⟩ := get_lt hi'
      have hA : (l.take (i + 1)).foldl up p = up a x := by rw [fold_step up p hli, ha]
      have hC : (l.take (i + 1)).foldl dn p = dn c x := by rw [fold_step dn p hli, hc]
      repeat (first | refine N.seq ?_ | refine N.blk ?_ | refine W.seq rfl ?_ | refine W.block rfl ?_ | refine W.skip rfl ?_ | refine W.ret rfl ?_ | refine N.nil ?_ | refine N.loop ?_ | refine W.exit rfl ?_ | refine X.seq ?_ | refine X.loop ?_ | refine X.hit ?_ | refine X.pass (by decide) ?_ | refine W.region tm no_specs rfl (by conv => lhs; simp [hli, h96, h112, cell]) fun _ => ?_ | refine W.regionD tm no_specs rfl (by conv => lhs; simp [hli, h96, h112, cell]) (by conv => lhs; simp) (by kernel_rfl) fun _ => ?_)
      refine W.cond rfl (by rfl) (fun h1 => ?_) (fun h1 => ?_)
      all_goals
        simp only [decide_eq_true_eq, decide_eq_false_iff_not] at h1
        repeat (first | refine N.seq ?_ | refine N.blk ?_ | refine W.seq rfl ?_ | refine W.block rfl ?_ | refine W.skip rfl ?_ | refine W.ret rfl ?_ | refine N.nil ?_ | refine N.loop ?_ | refine W.exit rfl ?_ | refine X.seq ?_ | refine X.loop ?_ | refine X.hit ?_ | refine X.pass (by decide) ?_ | refine W.region tm no_specs rfl (by conv => lhs; simp [hli, h96, h112, cell]) fun _ => ?_ | refine W.regionD tm no_specs rfl (by conv => lhs; simp [hli, h96, h112, cell]) (by conv => lhs; simp) (by kernel_rfl) fun _ => ?_)
        refine W.cond rfl (by rfl) (fun h2 => ?_) (fun h2 => ?_)
        all_goals
          simp only [decide_eq_true_eq, decide_eq_false_iff_not] at h2
          repeat (first | refine N.seq ?_ | refine N.blk ?_ | refine W.seq rfl ?_ | refine W.block rfl ?_ | refine W.skip rfl ?_ | refine W.ret rfl ?_ | refine N.nil ?_ | refine N.loop ?_ | refine W.exit rfl ?_ | refine X.seq ?_ | refine X.loop ?_ | refine X.hit ?_ | refine X.pass (by decide) ?_ | refine W.region tm no_specs rfl (by conv => lhs; simp [hli, h96, h112, cell, w64_succ hi' hlen]) fun _ => ?_ | refine W.regionD tm no_specs rfl (by conv => lhs; simp [hli, h96, h112, cell, w64_succ hi' hlen]) (by conv => lhs; simp) (by kernel_rfl) fun _ => ?_)
          refine ⟨⟨(i + 1, _), by dsimp only; omega, hi', ?_, ?_, ?_, ?_⟩, by dsimp only; omega, AS.le_of rfl (by simp [tmpsIn]) (fun _ => rfl)⟩
          · simp [lk_st, h48, cell]
          · simp [lk_st, h64, cell]
          · rw [hA]
            simp [lk_st, h96, cell, up, h1]
          · rw [hC]
            simp [lk_st, h112, cell, dn, h2]
    · simp only [decide_eq_false_iff_not] at hb
      have hil : i = l.length := by omega
      rw [hil, List.take_length] at ha hc
      repeat (first | refine N.seq ?_ | refine N.blk ?_ | refine W.seq rfl ?_ | refine W.block rfl ?_ | refine W.skip rfl ?_ | refine W.ret rfl ?_ | refine N.nil ?_ | refine N.loop ?_ | refine W.exit rfl ?_ | refine X.seq ?_ | refine X.loop ?_ | refine X.hit ?_ | refine X.pass (by decide) ?_ | refine W.region tm no_specs rfl (by conv => lhs; simp [h48, h64, h96, h112, cell]) fun _ => ?_ | refine W.regionD tm no_specs rfl (by conv => lhs; simp [h48, h64, h96, h112, cell]) (by conv => lhs; simp) (by kernel_rfl) fun _ => ?_)
      clear h48 h64 h96 h112
      have hp : pick l = (a, c, true) := by
        match l, h0, ha, hc, hl2 with
        | [], _, _, _, hl2 => simp at hl2
        | [_], _, _, _, hl2 => simp at hl2
        | p' :: q :: r, h0, ha, hc, _ =>
          simp only [List.getElem?_cons_zero, Option.some.injEq] at h0
          subst h0
          simp only [pick, ha, hc]
      simp only [pickV, hp, Ld.cells]
      first | exact Ret.dataR rfl (by conv => lhs; simp) (by conv => lhs; simp) (by first | rfl | simp [inlT, inlV]) | fail "no return here"
def ordF (b : Bool) : AV := .fn (.func (if b then 54 else 55)) [] []
def encM (x : Ld × List Ld × Bool) : List AV := [.list 3 ((x.1 :: x.2.1).map Ld.cells), ordF x.2.2]
theorem encM_inj {β : Type} {f : Ld × List Ld × Bool → β} : ∀ x y, encM x = encM y → f x = f y := fun x y h => by
  obtain ⟨p, l, b⟩ := x
  obtain ⟨q, m, c⟩ := y
  simp only [encM, ordF, List.cons.injEq, AV.list.injEq, true_and, and_true, AV.fn.injEq] at h
  have hl := map_inj Ld.inj h.1
  simp only [List.cons.injEq] at hl
  rw [hl.1, hl.2]
  cases b <;> cases c <;> simp at h ⊢
def best (b : Bool) : Ld → Ld → Ld := if b then up else dn
noncomputable def mostS : SpecFn := mkS encM fun x => (.agg (x.2.1.foldl (best x.2.2) x.1).cells, [])
theorem mostS_eq (p : Ld) (r : List Ld) (b : Bool) : mostS [.list 3 ((p :: r).map Ld.cells), ordF b] [] = some (.agg (r.foldl (best b) p).cells, []) := mkS_eq encM_inj (p, r, b)
noncomputable def most_specs : NL Spec := [(54, ⟨0, gtS⟩), (55, ⟨0, ltS⟩)]
theorem most_specs_ok : ∀ p ∈ most_specs, FnC Try.prog p.1 p.2.fn := by
  simp only [most_specs, List.mem_cons, List.not_mem_nil, or_false]
  rintro p (rfl | rfl)
  · exact gt_ok
  · exact lt_ok
attribute [local simp] most_specs gtS_eq ltS_eq
theorem most_walk (p : Ld) (r : List Ld) (b : Bool) : W Try.prog (Ret Try.prog Try.f53 (.agg (r.foldl (best b) p).cells) []) (codeOf Try.f53) [] ⟨27, [(0, .list 3 ((p :: r).map Ld.cells)), (1, ordF b)], []⟩ := by
  have ht : List.take r.length (List.map Ld.cells r) = List.map Ld.cells r := by simp [List.take_of_length_le]
  repeat (first | refine N.seq ?_ | refine N.blk ?_ | refine W.seq rfl ?_ | refine W.block rfl ?_ | refine W.skip rfl ?_ | refine W.ret rfl ?_ | refine N.nil ?_ | refine N.loop ?_ | refine W.exit rfl ?_ | refine X.seq ?_ | refine X.loop ?_ | refine X.hit ?_ | refine X.pass (by decide) ?_)
  refine W.region tm most_specs_ok rfl (by conv => lhs; simp) fun _ => ?_
  repeat (first | refine N.seq ?_ | refine N.blk ?_ | refine W.seq rfl ?_ | refine W.block rfl ?_ | refine W.skip rfl ?_ | refine W.ret rfl ?_ | refine N.nil ?_ | refine N.loop ?_ | refine W.exit rfl ?_ | refine X.seq ?_ | refine X.loop ?_ | refine X.hit ?_ | refine X.pass (by decide) ?_)
  refine W.region tm most_specs_ok rfl (by conv => lhs; simp) fun _ => ?_
  repeat (first | refine N.seq ?_ | refine N.blk ?_ | refine W.seq rfl ?_ | refine W.block rfl ?_ | refine W.skip rfl ?_ | refine W.ret rfl ?_ | refine N.nil ?_ | refine N.loop ?_ | refine W.exit rfl ?_ | refine X.seq ?_ | refine X.loop ?_ | refine X.hit ?_ | refine X.pass (by decide) ?_)
  refine W.region tm most_specs_ok rfl (by conv => lhs; simp [ht]) fun hlen => ?_
  repeat (first | refine N.seq ?_ | refine N.blk ?_ | refine W.seq rfl ?_ | refine W.block rfl ?_ | refine W.skip rfl ?_ | refine W.ret rfl ?_ | refine N.nil ?_ | refine N.loop ?_ | refine W.exit rfl ?_ | refine X.seq ?_ | refine X.loop ?_ | refine X.hit ?_ | refine X.pass (by decide) ?_)
  refine W.loop rfl (ι := { q : Nat × NL ABlk // q.1 ≤ r.length ∧ lk q.2 80 = some (cell Ld.zero) ∧ lk q.2 96 = some (cell ((r.take q.1).foldl (best b) p)) })
    (fun q => ⟨27, [(1, ordF b), (4, .ptr 80 1 0 0), (5, .ptr 96 1 0 0), (12, .list 3 (r.map Ld.cells)), (13, .int .i64 r.length), (14, .int .i64 q.1.1)], q.1.2⟩) (fun q => r.length - q.1.1)
    ⟨(0, _), by simp, by rfl, by rfl⟩ (AS.le_of rfl (by simp [tmpsIn]) (fun _ => rfl)) ?_
  rintro ⟨⟨i, h⟩, hi, h80, h96⟩
  dsimp only at hi h80 h96 ⊢
  generalize ha : (r.take i).foldl (best b) p = a at h96
  repeat (first | refine N.seq ?_ | refine N.blk ?_ | refine W.seq rfl ?_ | refine W.block rfl ?_ | refine W.skip rfl ?_ | refine W.ret rfl ?_ | refine N.nil ?_ | refine N.loop ?_ | refine W.exit rfl ?_ | refine X.seq ?_ | refine X.loop ?_ | refine X.hit ?_ | refine X.pass (by decide) ?_ | refine W.region tm most_specs_ok rfl (by conv => lhs; simp) fun _ => ?_ | refine W.regionD tm most_specs_ok rfl (by conv => lhs; simp) (by conv => lhs; simp) (by kernel_rfl) fun _ => ?_)
  refine W.cond rfl (by rfl) (fun hb => ?_) (fun hb => ?_)
  · simp only [decide_eq_true_eq] at hb
    have hi' : i < r.length := by omega
    obtain ⟨x, hli⟩ := get_lt hi'
    have hA : (r.take (i + 1)).foldl (best b) p = best b a x := by rw [fold_step (best b) p hli, ha]
    cases b
    all_goals
      repeat (first | refine N.seq ?_ | refine N.blk ?_ | refine W.seq rfl ?_ | refine W.block rfl ?_ | refine W.skip rfl ?_ | refine W.ret rfl ?_ | refine N.nil ?_ | refine N.loop ?_ | refine W.exit rfl ?_ | refine X.seq ?_ | refine X.loop ?_ | refine X.hit ?_ | refine X.pass (by decide) ?_ | refine W.region tm most_specs_ok rfl (by conv => lhs; simp [hli, h96, cell, ordF]) fun _ => ?_ | refine W.regionD tm most_specs_ok rfl (by conv => lhs; simp [hli, h96, cell, ordF]) (by conv => lhs; simp) (by kernel_rfl) fun _ => ?_)
      refine W.cond rfl (by rfl) (fun h1 => ?_) (fun h1 => ?_)
      all_goals
        simp only [decide_eq_true_eq, decide_eq_false_iff_not] at h1
        repeat (first | refine N.seq ?_ | refine N.blk ?_ | refine W.seq rfl ?_ | refine W.block rfl ?_ | refine W.skip rfl ?_ | refine W.ret rfl ?_ | refine N.nil ?_ | refine N.loop ?_ | refine W.exit rfl ?_ | refine X.seq ?_ | refine X.loop ?_ | refine X.hit ?_ | refine X.pass (by decide) ?_ | refine W.region tm most_specs_ok rfl (by conv => lhs; simp [hli, h96, cell, w64_succ hi' hlen]) fun _ => ?_ | refine W.regionD tm most_specs_ok rfl (by conv => lhs; simp [hli, h96, cell, w64_succ hi' hlen]) (by conv => lhs; simp) (by kernel_rfl) fun _ => ?_)
        refine ⟨⟨(i + 1, _), hi', ?_, ?_⟩, by dsimp only; omega, AS.le_of rfl (by simp [tmpsIn, ordF]) (fun _ => rfl)⟩
        · simp [lk_st, h80, cell]
        · rw [hA]
          simp [lk_st, h96, cell, best, up, dn, h1]
  · simp only [decide_eq_false_iff_not] at hb
    have hil : i = r.length := by omega
    rw [hil, List.take_length] at ha
    repeat (first | refine N.seq ?_ | refine N.blk ?_ | refine W.seq rfl ?_ | refine W.block rfl ?_ | refine W.skip rfl ?_ | refine W.ret rfl ?_ | refine N.nil ?_ | refine N.loop ?_ | refine W.exit rfl ?_ | refine X.seq ?_ | refine X.loop ?_ | refine X.hit ?_ | refine X.pass (by decide) ?_ | refine W.region tm most_specs_ok rfl (by conv => lhs; simp [h80, h96, cell]) fun _ => ?_ | refine W.regionD tm most_specs_ok rfl (by conv => lhs; simp [h80, h96, cell]) (by conv => lhs; simp) (by kernel_rfl) fun _ => ?_)
    rw [ha]
    simp only [Ld.cells]
    first | exact Ret.dataR rfl (by conv => lhs; simp [h80, h96, cell]) (by conv => lhs; simp [h80, h96, cell]) (by first | rfl | simp [inlT, inlV]) | fail "no return here"
theorem most_ok : FnC Try.prog 53 mostS := FnC.walk 53 (fn := Try.f53) Try.func53 rfl (by kernel_rfl) fun x => most_walk x.1 x.2.1 x.2.2

/-! ## Both picks, and the spreads -/
noncomputable def pickS : SpecFn := mkS encLs fun l => (pickV l, [])
theorem pickS_eq (l : List Ld) : pickS [.list 3 (l.map Ld.cells)] [] = some (pickV l, []) := mkS_eq encLs_inj l
noncomputable def pick_specs : NL Spec := [(53, ⟨0, mostS⟩)]
theorem pick_specs_ok : ∀ p ∈ pick_specs, FnC Try.prog p.1 p.2.fn := by
  simp only [pick_specs, List.mem_cons, List.not_mem_nil, or_false]
  rintro p rfl
  exact most_ok
attribute [local simp] pick_specs
theorem fold_self (f : Ld → Ld → Ld) (p : Ld) (r : List Ld) (h : f p p = p) : (p :: r).foldl f p = r.foldl f p := by simp [h]
theorem pick_ok : FnC Try.prog 32 pickS := by
  refine FnC.walk 32 (fn := Try.f32) Try.func32 rfl (by kernel_rfl) fun l => ?_
  change W _ _ _ _ ⟨14, [(0, .list 3 (l.map Ld.cells))], []⟩
  repeat (first | refine N.seq ?_ | refine N.blk ?_ | refine W.seq rfl ?_ | refine W.block rfl ?_ | refine W.skip rfl ?_ | refine W.ret rfl ?_ | refine N.nil ?_ | refine N.loop ?_ | refine W.exit rfl ?_ | refine X.seq ?_ | refine X.loop ?_ | refine X.hit ?_ | refine X.pass (by decide) ?_)
  refine W.region tm pick_specs_ok rfl (by conv => lhs; simp) fun _ => ?_
  repeat (first | refine N.seq ?_ | refine N.blk ?_ | refine W.seq rfl ?_ | refine W.block rfl ?_ | refine W.skip rfl ?_ | refine W.ret rfl ?_ | refine N.nil ?_ | refine N.loop ?_ | refine W.exit rfl ?_ | refine X.seq ?_ | refine X.loop ?_ | refine X.hit ?_ | refine X.pass (by decide) ?_)
  refine W.region tm pick_specs_ok rfl (by conv => lhs; simp) fun hlen => ?_
  repeat (first | refine N.seq ?_ | refine N.blk ?_ | refine W.seq rfl ?_ | refine W.block rfl ?_ | refine W.skip rfl ?_ | refine W.ret rfl ?_ | refine N.nil ?_ | refine N.loop ?_ | refine W.exit rfl ?_ | refine X.seq ?_ | refine X.loop ?_ | refine X.hit ?_ | refine X.pass (by decide) ?_)
  refine W.cond rfl (by rfl) (fun hb => ?_) (fun hb => ?_)
  · have hz : pick l = (Ld.zero, Ld.zero, false) := by
      simp only [decide_eq_true_eq] at hb
      match l, hb with
      | [], _ => rfl
      | [_], _ => rfl
      | _ :: _ :: _, hb => simp at hb; omega
    repeat (first | refine N.seq ?_ | refine N.blk ?_ | refine W.seq rfl ?_ | refine W.block rfl ?_ | refine W.skip rfl ?_ | refine W.ret rfl ?_ | refine N.nil ?_ | refine N.loop ?_ | refine W.exit rfl ?_ | refine X.seq ?_ | refine X.loop ?_ | refine X.hit ?_ | refine X.pass (by decide) ?_ | refine W.region tm pick_specs_ok rfl (by conv => lhs; simp) fun _ => ?_ | refine W.regionD tm pick_specs_ok rfl (by conv => lhs; simp) (by conv => lhs; simp) (by kernel_rfl) fun _ => ?_)
    simp only [pickV, hz, Ld.cells, Ld.zero]
    first | exact Ret.dataR rfl (by conv => lhs; simp) (by conv => lhs; simp) (by first | rfl | simp [inlT, inlV]) | fail "no return here"
  · simp only [decide_eq_false_iff_not] at hb
    have hl2 : 2 ≤ l.length := by omega
    obtain ⟨p, q, r, hl⟩ : ∃ p q r, l = p :: q :: r := by
      match l, hl2 with
      | p :: q :: r, _ => exact ⟨p, q, r, rfl⟩
    have h1 : mostS [.list 3 (l.map Ld.cells), .fn (.func 54) [] []] [] = some (.agg (pick l).1.cells, []) := by
      rw [hl]
      refine (mostS_eq p (q :: r) true).trans ?_
      rw [← fold_self (best true) p (q :: r) (by simp [best, up])]
      rfl
    have h2 : mostS [.list 3 (l.map Ld.cells), .fn (.func 55) [] []] [] = some (.agg (pick l).2.1.cells, []) := by
      rw [hl]
      refine (mostS_eq p (q :: r) false).trans ?_
      rw [← fold_self (best false) p (q :: r) (by simp [best, dn])]
      rfl
    have h3 : (pick l).2.2 = true := by rw [hl]; rfl
    repeat (first | refine N.seq ?_ | refine N.blk ?_ | refine W.seq rfl ?_ | refine W.block rfl ?_ | refine W.skip rfl ?_ | refine W.ret rfl ?_ | refine N.nil ?_ | refine N.loop ?_ | refine W.exit rfl ?_ | refine X.seq ?_ | refine X.loop ?_ | refine X.hit ?_ | refine X.pass (by decide) ?_ | refine W.region tm pick_specs_ok rfl (by conv => lhs; simp [h1, h2]) fun _ => ?_ | refine W.regionD tm pick_specs_ok rfl (by conv => lhs; simp [h1, h2]) (by conv => lhs; simp) (by kernel_rfl) fun _ => ?_)
    simp only [pickV, h3, Ld.cells]
    first | exact Ret.dataR rfl (by conv => lhs; simp) (by conv => lhs; simp) (by first | rfl | simp [inlT, inlV]) | fail "no return here"
def spread (l : List Ld) : Int := if (pick l).2.2 then IntKind.i64.wrap ((pick l).1.avg - (pick l).2.1.avg) else 0
noncomputable def spreadS : SpecFn := mkS encLs fun l => (.int .i64 (spread l), [])
theorem spreadS_eq (l : List Ld) : spreadS [.list 3 (l.map Ld.cells)] [] = some (.int .i64 (spread l), []) := mkS_eq encLs_inj l
noncomputable def sp_specs : NL Spec := [(37, ⟨0, refPickS⟩)]
theorem sp_specs_ok : ∀ p ∈ sp_specs, FnC Try.prog p.1 p.2.fn := by
  simp only [sp_specs, List.mem_cons, List.not_mem_nil, or_false]
  rintro p rfl
  exact refPick_ok
attribute [local simp] sp_specs refPickS_eq pickV
theorem refSpread_ok : FnC Try.prog 21 spreadS := by
  refine FnC.walk 21 (fn := Try.f21) Try.func21 rfl (by kernel_rfl) fun l => ?_
  change W _ _ _ _ ⟨17, [(0, .list 3 (l.map Ld.cells))], []⟩
  repeat (first | refine N.seq ?_ | refine N.blk ?_ | refine W.seq rfl ?_ | refine W.block rfl ?_ | refine W.skip rfl ?_ | refine W.ret rfl ?_ | refine N.nil ?_ | refine N.loop ?_ | refine W.exit rfl ?_ | refine X.seq ?_ | refine X.loop ?_ | refine X.hit ?_ | refine X.pass (by decide) ?_ | refine W.region tm sp_specs_ok rfl (by conv => lhs; simp) fun _ => ?_ | refine W.regionD tm sp_specs_ok rfl (by conv => lhs; simp) (by conv => lhs; simp) (by kernel_rfl) fun _ => ?_)
  have hs : IntKind.i64.wrap ((pick l).1.avg - (pick l).2.1.avg) = spread l := by
    unfold spread
    match l with
    | [] => rfl
    | [_] => rfl
    | _ :: _ :: _ => rfl
  rw [← hs]
  first | exact Ret.dataR rfl (by conv => lhs; simp) (by conv => lhs; simp) (by first | rfl | simp [inlT, inlV]) | fail "no return here"
end Go.Abs.Po
namespace Go.Abs.Po
open Go Go.Proofs Go.Abs
set_option maxRecDepth 100000
set_option maxHeartbeats 4000000
set_option linter.unusedSimpArgs false
set_option linter.unusedVariables false
attribute [local simp] runL stepA execA_eq skipA run_ret run_fail run_get run_put run_asm num lk st lk_st putA AS.ev ofValue ofFlat mkv splice fieldAddrA buildA fillA runF gdst pickA unOpA extractA resVs resV pack frzT inlT inlV frzV frzVs frzL frz1 newId AV.cellsOf AV.flat AV.flat2 specOf loadA_runR capA copyA copyTo srcA sliceCA slice3A appendZA extA AV.place lenCA clearA clearTo expG expB3 List.zipWith renL fF handB renB AV.ren backF backL idsOf freshIds refsL refsB AV.refs List.range List.range.loop placesA sliceRows rowsOf convertA sliceArrA sliceA bndA nilCheckA arrayAtA mmA lookupA keyOf keyOK findA keyEqA foundA makeMapA mapUpdateA appendA rowsA indexA partA fieldA retE2 frqT frqV frqVs frqL frq1 reachE blkRefs outE nodupE firstE seqO expB2 expF instA take_len_map
theorem drop_get {α : Type} {l : List α} {k : Nat} {x : α} (h : l[k]? = some x) : l.drop k = x :: l.drop (k + 1) := by
  obtain ⟨hk, rfl⟩ := List.getElem?_eq_some_iff.1 h
  exact List.drop_eq_getElem_cons hk
/-! ### A place -/
def plc : List Pl → Int → Int × Bool
  | [], _ => (0, false)
  | x :: r, id => if x.p = id then (x.n, true) else plc r id
noncomputable def plcrS : SpecFn := mkS encVI fun x => (.tup [.int .i64 (plc x.1.pl x.2).1, .bool (plc x.1.pl x.2).2], [])
theorem plcrS_eq (view : Int) (nodes : List Int) (P : AV) (pl : List Pl) (id : Int) (hP : IsP P pl) (hn : nodes.length ≤ 8) (hl : pl.length ≤ 200) :
    plcrS [.agg [.int .i64 view, .list 1 (nodes.map ic), .nils, P, .nils, .nils], .int .u64 id] [] = some (.tup [.int .i64 (plc pl id).1, .bool (plc pl id).2], []) :=
  mkS_eq (enc := encVI) encVI_inj (⟨view, nodes, P, pl, hP, hn, hl⟩, id)
theorem plcr_ok : FnC Try.prog 22 plcrS := by
  refine FnC.walk 22 (fn := Try.f22) Try.func22 rfl (by kernel_rfl) fun x => ?_
  obtain ⟨⟨view, nodes, P, pl, hP, hn, hl⟩, id⟩ := x
  dsimp only
  refine W.weak (σ' := ⟨28, [(0, .agg (vA view nodes (.list 2 (pl.map Pl.cells)))), (1, .int .u64 id)], []⟩) (le_head (vA_weak hP.weak)) ?_
  clear hP P
  repeat (first | refine N.seq ?_ | refine N.blk ?_ | refine W.seq rfl ?_ | refine W.block rfl ?_ | refine W.skip rfl ?_ | refine W.ret rfl ?_ | refine N.nil ?_ | refine N.loop ?_ | refine W.exit rfl ?_ | refine X.seq ?_ | refine X.loop ?_ | refine X.hit ?_ | refine X.pass (by decide) ?_ | refine W.condT rfl (by rfl) ?_ | refine W.condF rfl (by rfl) ?_ | refine W.region tm no_specs rfl (by conv => lhs; simp [vA]) fun _ => ?_ | refine W.regionD tm no_specs rfl (by conv => lhs; simp [vA]) (by conv => lhs; simp) (by kernel_rfl) fun _ => ?_)
  refine W.loop rfl (ι := { q : Nat × NL ABlk // q.1 ≤ pl.length ∧ plc pl id = plc (pl.drop q.1) id ∧ lk q.2 48 = some (vB view nodes (.list 2 (pl.map Pl.cells))) })
    (fun q => ⟨28, [(1, .int .u64 id), (2, .ptr 48 1 0 0), (6, .int .i64 (q.1.1 : Nat))], q.1.2⟩) (fun q => pl.length - q.1.1)
    ⟨(0, _), by simp, rfl, by rfl⟩ (AS.le_of rfl ⟨rfl, rfl, rfl, trivial⟩ (fun _ => rfl)) ?_
  rintro ⟨⟨k, h⟩, hk, hi, h1⟩
  dsimp only at hk hi h1 ⊢
  rw [hi]
  by_cases hk2 : k = pl.length
  · subst hk2
    repeat (first | refine N.seq ?_ | refine N.blk ?_ | refine W.seq rfl ?_ | refine W.block rfl ?_ | refine W.skip rfl ?_ | refine W.ret rfl ?_ | refine N.nil ?_ | refine N.loop ?_ | refine W.exit rfl ?_ | refine X.seq ?_ | refine X.loop ?_ | refine X.hit ?_ | refine X.pass (by decide) ?_ | refine W.condT rfl (by rfl) ?_ | refine W.condF rfl (by rfl) ?_ | refine W.region tm no_specs rfl (by conv => lhs; simp [h1, vA, vB]) fun _ => ?_ | refine W.regionD tm no_specs rfl (by conv => lhs; simp [h1, vA, vB]) (by conv => lhs; simp) (by kernel_rfl) fun _ => ?_)
    rw [List.drop_length]
    simp only [plc]
    first | exact Ret.dataR rfl (by conv => lhs; simp) (by conv => lhs; simp) (by first | rfl | simp [inlT, inlV]) | fail "no return here"
  · have hlt : k < pl.length := by omega
    obtain ⟨x, hx⟩ := get_lt hlt
    have q1 : (k : Int) < pl.length := by omega
    have q2 : ¬ pl.length ≤ k := by omega
    have hw := w64_succ hlt (capX hl)
    rw [drop_get hx]
    by_cases e : x.p = id
    · have hb : (x.p == id) = true := by simpa using e
      repeat (first | refine N.seq ?_ | refine N.blk ?_ | refine W.seq rfl ?_ | refine W.block rfl ?_ | refine W.skip rfl ?_ | refine W.ret rfl ?_ | refine N.nil ?_ | refine N.loop ?_ | refine W.exit rfl ?_ | refine X.seq ?_ | refine X.loop ?_ | refine X.hit ?_ | refine X.pass (by decide) ?_ | refine W.condT rfl (by rfl) ?_ | refine W.condF rfl (by rfl) ?_ | refine W.region tm no_specs rfl (by conv => lhs; simp [h1, vA, vB, q1, q2, hx, hb, hw, Pl.cells]) fun _ => ?_ | refine W.regionD tm no_specs rfl (by conv => lhs; simp [h1, vA, vB, q1, q2, hx, hb, hw, Pl.cells]) (by conv => lhs; simp) (by kernel_rfl) fun _ => ?_)
      simp only [plc, if_pos e]
      first | exact Ret.dataR rfl (by conv => lhs; simp) (by conv => lhs; simp) (by first | rfl | simp [inlT, inlV]) | fail "no return here"
    · have hb : (x.p == id) = false := by simpa using e
      repeat (first | refine N.seq ?_ | refine N.blk ?_ | refine W.seq rfl ?_ | refine W.block rfl ?_ | refine W.skip rfl ?_ | refine W.ret rfl ?_ | refine N.nil ?_ | refine N.loop ?_ | refine W.exit rfl ?_ | refine X.seq ?_ | refine X.loop ?_ | refine X.hit ?_ | refine X.pass (by decide) ?_ | refine W.condT rfl (by rfl) ?_ | refine W.condF rfl (by rfl) ?_ | refine W.region tm no_specs rfl (by conv => lhs; simp [h1, vA, vB, q1, q2, hx, hb, hw, Pl.cells]) fun _ => ?_ | refine W.regionD tm no_specs rfl (by conv => lhs; simp [h1, vA, vB, q1, q2, hx, hb, hw, Pl.cells]) (by conv => lhs; simp) (by kernel_rfl) fun _ => ?_)
      exact ⟨⟨(k + 1, _), hlt, by simp only [plc, if_neg e], by simp [lk_st, h1, vA, vB]⟩, by dsimp only; omega, AS.le_of rfl ⟨rfl, rfl, rfl, trivial⟩ (fun _ => rfl)⟩
/-! ### How many are at a node -/
def cnt : List Pl → Int → Nat
  | [], _ => 0
  | x :: r, n => (if x.n = n then 1 else 0) + cnt r n
theorem cnt_le (l : List Pl) (n : Int) : cnt l n ≤ l.length := by
  induction l with
  | nil => simp [cnt]
  | cons x r ih => simp only [cnt, List.length_cons]; split <;> omega
def encVn (x : Vt × Int) : List AV := [x.1.av, .int .i64 x.2]
theorem encVn_inj {β : Type} {f : Vt × Int → β} : ∀ x y, encVn x = encVn y → f x = f y := fun x y h => by
  simp only [encVn, List.cons.injEq, AV.int.injEq, true_and, and_true] at h
  rw [Prod.ext (Vt.inj _ _ h.1) h.2]
noncomputable def nowS : SpecFn := mkS encVn fun x => (.int .i64 (cnt x.1.pl x.2 : Nat), [])
theorem nowS_eq (view : Int) (nodes : List Int) (P : AV) (pl : List Pl) (n : Int) (hP : IsP P pl) (hn : nodes.length ≤ 8) (hl : pl.length ≤ 200) :
    nowS [.agg [.int .i64 view, .list 1 (nodes.map ic), .nils, P, .nils, .nils], .int .i64 n] [] = some (.int .i64 (cnt pl n : Nat), []) :=
  mkS_eq (enc := encVn) encVn_inj (⟨view, nodes, P, pl, hP, hn, hl⟩, n)
theorem now_ok : FnC Try.prog 30 nowS := by
  refine FnC.walk 30 (fn := Try.f30) Try.func30 rfl (by kernel_rfl) fun x => ?_
  obtain ⟨⟨view, nodes, P, pl, hP, hn, hl⟩, n⟩ := x
  dsimp only
  refine W.weak (σ' := ⟨25, [(0, .agg (vA view nodes (.list 2 (pl.map Pl.cells)))), (1, .int .i64 n)], []⟩) (le_head (vA_weak hP.weak)) ?_
  clear hP P
  repeat (first | refine N.seq ?_ | refine N.blk ?_ | refine W.seq rfl ?_ | refine W.block rfl ?_ | refine W.skip rfl ?_ | refine W.ret rfl ?_ | refine N.nil ?_ | refine N.loop ?_ | refine W.exit rfl ?_ | refine X.seq ?_ | refine X.loop ?_ | refine X.hit ?_ | refine X.pass (by decide) ?_ | refine W.condT rfl (by rfl) ?_ | refine W.condF rfl (by rfl) ?_ | refine W.region tm no_specs rfl (by conv => lhs; simp [vA]) fun _ => ?_ | refine W.regionD tm no_specs rfl (by conv => lhs; simp [vA]) (by conv => lhs; simp) (by kernel_rfl) fun _ => ?_)
  refine W.loop rfl (ι := { q : Nat × Nat × NL ABlk // q.1 ≤ pl.length ∧ cnt pl n = q.2.1 + cnt (pl.drop q.1) n ∧ lk q.2.2 48 = some (vB view nodes (.list 2 (pl.map Pl.cells))) })
    (fun q => ⟨25, [(1, .int .i64 n), (2, .ptr 48 1 0 0), (5, .int .i64 (q.1.2.1 : Nat)), (6, .int .i64 (q.1.1 : Nat))], q.1.2.2⟩) (fun q => pl.length - q.1.1)
    ⟨(0, 0, _), by simp, by simp, by rfl⟩ (AS.le_of rfl ⟨rfl, rfl, rfl, rfl, trivial⟩ (fun _ => rfl)) ?_
  rintro ⟨⟨k, c, h⟩, hk, hi, h1⟩
  dsimp only at hk hi h1 ⊢
  by_cases hk2 : k = pl.length
  · subst hk2
    rw [List.drop_length] at hi
    simp only [cnt, Nat.add_zero] at hi
    rw [hi]
    repeat (first | refine N.seq ?_ | refine N.blk ?_ | refine W.seq rfl ?_ | refine W.block rfl ?_ | refine W.skip rfl ?_ | refine W.ret rfl ?_ | refine N.nil ?_ | refine N.loop ?_ | refine W.exit rfl ?_ | refine X.seq ?_ | refine X.loop ?_ | refine X.hit ?_ | refine X.pass (by decide) ?_ | refine W.condT rfl (by rfl) ?_ | refine W.condF rfl (by rfl) ?_ | refine W.region tm no_specs rfl (by conv => lhs; simp [h1, vA, vB]) fun _ => ?_ | refine W.regionD tm no_specs rfl (by conv => lhs; simp [h1, vA, vB]) (by conv => lhs; simp) (by kernel_rfl) fun _ => ?_)
    first | exact Ret.dataR rfl (by conv => lhs; simp) (by conv => lhs; simp) (by first | rfl | simp [inlT, inlV]) | fail "no return here"
  · have hlt : k < pl.length := by omega
    obtain ⟨x, hx⟩ := get_lt hlt
    have q1 : (k : Int) < pl.length := by omega
    have q2 : ¬ pl.length ≤ k := by omega
    have hw := w64_succ hlt (capX hl)
    have hi' := hi
    rw [drop_get hx] at hi'
    simp only [cnt] at hi'
    have hcl := cnt_le pl n
    by_cases e : x.n = n
    · have hb : (x.n == n) = true := by simpa using e
      rw [if_pos e] at hi'
      have hwc : IntKind.i64.wrap ((c : Int) + 1) = ((c + 1 : Nat) : Int) := w64 (by omega) (by omega)
      repeat (first | refine N.seq ?_ | refine N.blk ?_ | refine W.seq rfl ?_ | refine W.block rfl ?_ | refine W.skip rfl ?_ | refine W.ret rfl ?_ | refine N.nil ?_ | refine N.loop ?_ | refine W.exit rfl ?_ | refine X.seq ?_ | refine X.loop ?_ | refine X.hit ?_ | refine X.pass (by decide) ?_ | refine W.condT rfl (by rfl) ?_ | refine W.condF rfl (by rfl) ?_ | refine W.region tm no_specs rfl (by conv => lhs; simp [h1, vA, vB, q1, q2, hx, hb, hw, hwc, Pl.cells]) fun _ => ?_ | refine W.regionD tm no_specs rfl (by conv => lhs; simp [h1, vA, vB, q1, q2, hx, hb, hw, hwc, Pl.cells]) (by conv => lhs; simp) (by kernel_rfl) fun _ => ?_)
      exact ⟨⟨(k + 1, c + 1, _), hlt, by dsimp only; omega, by simp [lk_st, h1, vA, vB]⟩, by dsimp only; omega, AS.le_of rfl ⟨rfl, rfl, rfl, rfl, trivial⟩ (fun _ => rfl)⟩
    · have hb : (x.n == n) = false := by simpa using e
      rw [if_neg e] at hi'
      repeat (first | refine N.seq ?_ | refine N.blk ?_ | refine W.seq rfl ?_ | refine W.block rfl ?_ | refine W.skip rfl ?_ | refine W.ret rfl ?_ | refine N.nil ?_ | refine N.loop ?_ | refine W.exit rfl ?_ | refine X.seq ?_ | refine X.loop ?_ | refine X.hit ?_ | refine X.pass (by decide) ?_ | refine W.condT rfl (by rfl) ?_ | refine W.condF rfl (by rfl) ?_ | refine W.region tm no_specs rfl (by conv => lhs; simp [h1, vA, vB, q1, q2, hx, hb, hw, Pl.cells]) fun _ => ?_ | refine W.regionD tm no_specs rfl (by conv => lhs; simp [h1, vA, vB, q1, q2, hx, hb, hw, Pl.cells]) (by conv => lhs; simp) (by kernel_rfl) fun _ => ?_)
      exact ⟨⟨(k + 1, c, _), hlt, by dsimp only; omega, by simp [lk_st, h1, vA, vB]⟩, by dsimp only; omega, AS.le_of rfl ⟨rfl, rfl, rfl, rfl, trivial⟩ (fun _ => rfl)⟩
/-! ### The loads of all nodes -/
def ldOf (pl : List Pl) (n : Int) : Ld := ⟨n, cnt pl n, 256 * cnt pl n⟩
def lds (nodes : List Int) (pl : List Pl) : List Ld := nodes.map (ldOf pl)
noncomputable def co_specs : NL Spec := [(30, ⟨1, nowS⟩)]
theorem co_specs_ok : ∀ p ∈ co_specs, FnC Try.prog p.1 p.2.fn := by
  simp only [co_specs, List.mem_cons, List.not_mem_nil, or_false]
  rintro p rfl
  exact now_ok
attribute [local simp] co_specs
def encV (x : Vt) : List AV := [x.av]
theorem encV_inj {β : Type} {f : Vt → β} : ∀ x y, encV x = encV y → f x = f y := fun x y h => by
  simp only [encV, List.cons.injEq, and_true] at h
  rw [Vt.inj _ _ h]
noncomputable def countrS : SpecFn := mkS encV fun x => (.list 3 ((lds x.nodes x.pl).map Ld.cells), [])
theorem countrS_eq (view : Int) (nodes : List Int) (P : AV) (pl : List Pl) (hP : IsP P pl) (hn : nodes.length ≤ 8) (hl : pl.length ≤ 200) :
    countrS [.agg [.int .i64 view, .list 1 (nodes.map ic), .nils, P, .nils, .nils]] [] = some (.list 3 ((lds nodes pl).map Ld.cells), []) :=
  mkS_eq (enc := encV) encV_inj (⟨view, nodes, P, pl, hP, hn, hl⟩)
def lB (k : Nat) (A : List (List AV)) : ABlk := { gen := k, kind := 2, elem := 29, size := 3, inl := true, rows := A }
theorem countr_ok : FnC Try.prog 10 countrS := by
  refine FnC.walk 10 (fn := Try.f10) Try.func10 rfl (by kernel_rfl) fun x => ?_
  obtain ⟨view, nodes, P, pl, hP, hn, hl⟩ := x
  dsimp only
  refine W.weak (σ' := ⟨33, [(0, .agg (vA view nodes (.list 2 (pl.map Pl.cells))))], []⟩) (le_head (vA_weak hP.weak)) ?_
  clear hP P
  repeat (first | refine N.seq ?_ | refine N.blk ?_ | refine W.seq rfl ?_ | refine W.block rfl ?_ | refine W.skip rfl ?_ | refine W.ret rfl ?_ | refine N.nil ?_ | refine N.loop ?_ | refine W.exit rfl ?_ | refine X.seq ?_ | refine X.loop ?_ | refine X.hit ?_ | refine X.pass (by decide) ?_ | refine W.condT rfl (by rfl) ?_ | refine W.condF rfl (by rfl) ?_ | refine W.region tm co_specs_ok rfl (by conv => lhs; simp [vA]) fun _ => ?_ | refine W.regionD tm co_specs_ok rfl (by conv => lhs; simp [vA]) (by conv => lhs; simp) (by kernel_rfl) fun _ => ?_)
  refine W.phantom (t := 3) 2000 29 3 true rfl (by rfl) (by decide) ?_
  refine W.loop rfl (ι := { q : Nat × NL ABlk // q.1 ≤ nodes.length ∧ lk q.2 32 = some (vB view nodes (.list 2 (pl.map Pl.cells))) ∧ lk q.2 2000 = some (lB q.1 (((lds nodes pl).map Ld.cells).take q.1)) })
    (fun q => ⟨33, [(1, .ptr 32 1 0 0), (3, .sl 2000 q.1.1 0 q.1.1), (4, .int .i64 (q.1.1 : Nat))], q.1.2⟩) (fun q => nodes.length - q.1.1)
    ⟨(0, _), by simp, by rfl, by rfl⟩ (AS.le_of rfl ⟨rfl, rfl, rfl, trivial⟩ (fun _ => rfl)) ?_
  rintro ⟨⟨k, h⟩, hk, h1, h2⟩
  dsimp only at hk h1 h2 ⊢
  by_cases hk2 : k = nodes.length
  · subst hk2
    have hlen : ((lds nodes pl).map Ld.cells).length = nodes.length := by simp [lds]
    rw [List.take_of_length_le (by omega)] at h2
    generalize (lds nodes pl).map Ld.cells = A at hlen h2 ⊢
    have hle : nodes.length ≤ A.length := by omega
    have htk : List.take nodes.length A = A := List.take_of_length_le (by omega)
    repeat (first | refine N.seq ?_ | refine N.blk ?_ | refine W.seq rfl ?_ | refine W.block rfl ?_ | refine W.skip rfl ?_ | refine W.ret rfl ?_ | refine N.nil ?_ | refine N.loop ?_ | refine W.exit rfl ?_ | refine X.seq ?_ | refine X.loop ?_ | refine X.hit ?_ | refine X.pass (by decide) ?_ | refine W.condT rfl (by rfl) ?_ | refine W.condF rfl (by rfl) ?_ | refine W.region tm co_specs_ok rfl (by conv => lhs; simp [h1, h2, vA, vB, lB]) fun _ => ?_ | refine W.regionD tm co_specs_ok rfl (by conv => lhs; simp [h1, h2, vA, vB, lB]) (by conv => lhs; simp) (by kernel_rfl) fun _ => ?_)
    first | exact Ret.dataR rfl (by conv => lhs; simp [h2, lB, hle, htk]) (by conv => lhs; simp [h2, lB, hle, htk]) (by first | rfl | simp [inlT, inlV]) | fail "no return here"
  · have hlt : k < nodes.length := by omega
    obtain ⟨x, hx⟩ := get_lt hlt
    have q1 : (k : Int) < nodes.length := by omega
    have q2 : ¬ nodes.length ≤ k := by omega
    have hw : IntKind.i64.wrap ((k : Int) + 1) = ((k + 1 : Nat) : Int) := w64 (by omega) (by omega)
    have hN := nowS_eq view nodes (.list 2 (pl.map Pl.cells)) pl x (isP_plL pl) hn hl
    have hcl := cnt_le pl x
    have hst : ((lds nodes pl).map Ld.cells).take (k + 1) = ((lds nodes pl).map Ld.cells).take k ++ [(ldOf pl x).cells] := by
      rw [List.take_add_one]
      simp [lds, hx]
    have hkl : (((lds nodes pl).map Ld.cells).take k).length = k := by simp [lds]; omega
    have hw2 : IntKind.i64.wrap (256 * (cnt pl x : Int)) = 256 * (cnt pl x : Int) := w64 (by omega) (by omega)
    generalize hA : ((lds nodes pl).map Ld.cells).take k = A at hst hkl h2
    have hfr := firstRows_full hkl
    have c1 : (k + 1) * 24 ≤ 140737488355328 := by omega
    have c2 : k ≤ 9223372036854775806 := by omega
    repeat (first | refine N.seq ?_ | refine N.blk ?_ | refine W.seq rfl ?_ | refine W.block rfl ?_ | refine W.skip rfl ?_ | refine W.ret rfl ?_ | refine N.nil ?_ | refine N.loop ?_ | refine W.exit rfl ?_ | refine X.seq ?_ | refine X.loop ?_ | refine X.hit ?_ | refine X.pass (by decide) ?_ | refine W.condT rfl (by rfl) ?_ | refine W.condF rfl (by rfl) ?_ | refine W.region tm co_specs_ok rfl (by conv => lhs; simp [h1, h2, vA, vB, lB, q1, q2, hx, hN, hw, hw2, hfr, hkl, c1, c2, maxLen, ic]) fun _ => ?_ | refine W.regionD tm co_specs_ok rfl (by conv => lhs; simp [h1, h2, vA, vB, lB, q1, q2, hx, hN, hw, hw2, hfr, hkl, c1, c2, maxLen, ic]) (by conv => lhs; simp) (by kernel_rfl) fun _ => ?_)
    exact ⟨⟨(k + 1, _), hlt, by simp [lk_st, h1, vA, vB], by rw [hst]; simp [lk_st, lB, ldOf, Ld.cells]⟩, by dsimp only; omega, AS.le_of rfl ⟨rfl, rfl, rfl, trivial⟩ (fun _ => rfl)⟩
end Go.Abs.Po
namespace Go.Abs.Po
open Go Go.Proofs Go.Abs
set_option maxRecDepth 100000
set_option maxHeartbeats 4000000
set_option linter.unusedSimpArgs false
set_option linter.unusedVariables false
attribute [local simp] runL stepA execA_eq skipA run_ret run_fail run_get run_put run_asm num lk st lk_st putA AS.ev ofValue ofFlat mkv splice fieldAddrA buildA fillA runF gdst pickA unOpA extractA resVs resV pack frzT inlT inlV frzV frzVs frzL frz1 newId AV.cellsOf AV.flat AV.flat2 specOf loadA_runR capA copyA copyTo srcA sliceCA slice3A appendZA extA AV.place lenCA clearA clearTo expG expB3 List.zipWith renL fF handB renB AV.ren backF backL idsOf freshIds refsL refsB AV.refs List.range List.range.loop placesA sliceRows rowsOf convertA sliceArrA sliceA bndA nilCheckA arrayAtA mmA lookupA keyOf keyOK findA keyEqA foundA makeMapA mapUpdateA appendA rowsA indexA partA fieldA retE2 frqT frqV frqVs frqL frq1 reachE blkRefs outE nodupE firstE seqO expB2 expF instA take_len_map nextS_eq
/-! ### A number of a range -/
noncomputable def rg_specs : NL Spec := [(27, ⟨3, nextS⟩)]
theorem rg_specs_ok : ∀ p ∈ rg_specs, FnC Try.prog p.1 p.2.fn := by
  simp only [rg_specs, List.mem_cons, List.not_mem_nil, or_false]
  rintro p rfl
  exact next_ok
attribute [local simp] rg_specs
def RgI := { x : List Int × Nat × Int × Int // x.1.length ≤ maxLen ∧ x.2.1 ≤ x.1.length ∧ 0 ≤ x.2.2.1 ∧ x.2.2.1 ≤ x.2.2.2 ∧ x.2.2.2 ≤ 100000 }
def encRg (x : RgI) : List AV × List ABlk := ([.ptr 0 0 0 0, .int .i64 x.1.2.2.1, .int .i64 x.1.2.2.2], [dkB x.1.1 x.1.2.1])
theorem encRg_inj {β : Type} {f : RgI → β} : ∀ x y, encRg x = encRg y → f x = f y := fun x y h => by
  simp only [encRg, Prod.mk.injEq, List.cons.injEq, AV.int.injEq, true_and, and_true] at h
  obtain ⟨h1, h2⟩ := dkB_inj h.2
  rw [Subtype.ext (Prod.ext h1 (Prod.ext h2 (Prod.ext h.1.1 h.1.2)))]
noncomputable def rangeS : SpecFn := mkS2 encRg fun x => (.int .i64 (x.1.2.2.1 + nx x.1.1 x.1.2.1 (x.1.2.2.2 - x.1.2.2.1 + 1)), [dkB x.1.1 (nk x.1.1 x.1.2.1)])
theorem rangeS_eq (L : List Int) (k : Nat) (lo hi : Int) (h0 : L.length ≤ maxLen) (h1 : k ≤ L.length) (h2 : 0 ≤ lo) (h3 : lo ≤ hi) (h4 : hi ≤ 100000) : rangeS [.ptr 0 0 0 0, .int .i64 lo, .int .i64 hi] [{ gen := 0, kind := 2, elem := 109, size := 2, inl := false, rows := [[.list 1 (L.map ic), .int .i64 (k : Nat)]] }] =
    some (.int .i64 (lo + nx L k (hi - lo + 1)), [{ gen := 0, kind := 2, elem := 109, size := 2, inl := false, rows := [[.list 1 (L.map ic), .int .i64 (nk L k : Nat)]] }]) := mkS2_eq (enc := encRg) encRg_inj ⟨(L, k, lo, hi), h0, h1, h2, h3, h4⟩
theorem range_ok : FnC Try.prog 26 rangeS := by
  refine FnC.walkB 26 (fn := Try.f26) Try.func26 rfl (by kernel_rfl) (fun x b hb => by simp [encRg] at hb; rw [hb]; rfl) fun x => ?_
  obtain ⟨⟨L, k, lo, hi⟩, h0, h1, h2, h3, h4⟩ := x
  dsimp only at h0 h1 h2 h3 h4
  change W _ (RetB _ _ 1 _ _) _ _ ⟨15, [(0, .ptr 0 0 0 0), (1, .int .i64 lo), (2, .int .i64 hi)], [(0, dkB L k)]⟩
  have hn := nextS_eq L k (hi - lo + 1) h0 h1 (by omega) (by omega)
  have w1 : IntKind.i64.wrap (hi - lo) = hi - lo := w64 (by omega) (by omega)
  have w2 : IntKind.i64.wrap (hi - lo + 1) = hi - lo + 1 := w64 (by omega) (by omega)
  have b0 := nx_nonneg L k (n := hi - lo + 1) (by omega)
  have b1 := nx_lt L k (n := hi - lo + 1) (by omega)
  have w3 : IntKind.i64.wrap (lo + nx L k (hi - lo + 1)) = lo + nx L k (hi - lo + 1) := w64 (by omega) (by omega)
  repeat (first | refine N.seq ?_ | refine N.blk ?_ | refine W.seq rfl ?_ | refine W.block rfl ?_ | refine W.skip rfl ?_ | refine W.ret rfl ?_ | refine N.nil ?_ | refine N.loop ?_ | refine W.exit rfl ?_ | refine X.seq ?_ | refine X.loop ?_ | refine X.hit ?_ | refine X.pass (by decide) ?_ | refine W.condT rfl (by rfl) ?_ | refine W.condF rfl (by rfl) ?_ | refine W.region tm rg_specs_ok rfl (by conv => lhs; simp [dkB, hn, w1, w2, w3]) fun _ => ?_ | refine W.regionD tm rg_specs_ok rfl (by conv => lhs; simp [dkB, hn, w1, w2, w3]) (by conv => lhs; simp) (by kernel_rfl) fun _ => ?_)
  simp only [dkB]
  first | exact retE2_ok false (by conv => lhs; simp [retE2, frqT, frqV, frqVs, frqL, frq1, reachE, blkRefs, outE, nodupE, firstE, seqO, expB2, expF, refsB, refsL, AV.refs, AV.ren, renL, renB, List.range, List.range.loop, resVs, resV, pack]) | fail "no return here"
/-! ### The vault -/
def plG (L : List Int) : Nat → Nat → List Pl → List Pl × Nat
  | 0, p, T => (T, p)
  | k + 1, p, T => plG L k (nk L (nk L (nk L p))) (asg T (1 + nx L p 20) (nx L (nk L (nk L p)) (1 + nx L (nk L p) 3)))
def ndN (L : List Int) : Nat := (1 + nx L 0 3).toNat
def nds (L : List Int) : List Int := ([0, 1, 2] : List Int).take (ndN L)
def plN (L : List Int) : Nat := (nx L (nk L 0) 14).toNat
def plR (L : List Int) : List Pl × Nat := plG L (plN L) (nk L (nk L 0)) []
def plP (L : List Int) : AV := if plN L = 0 then .nils else plL (plR L).1
def high (L : List Int) : Int := 1 + nx L (plR L).2 600
noncomputable def pc_specs : NL Spec := [(25, ⟨3, newS⟩), (26, ⟨3, rangeS⟩), (27, ⟨3, nextS⟩), (24, ⟨1, asgrS⟩)]
theorem pc_specs_ok : ∀ p ∈ pc_specs, FnC Try.prog p.1 p.2.fn := by
  simp only [pc_specs, List.mem_cons, List.not_mem_nil, or_false]
  rintro p (rfl | rfl | rfl | rfl)
  · exact new_ok
  · exact range_ok
  · exact next_ok
  · exact asgr_ok
attribute [local simp] pc_specs newS_eq
def encD (L : { L : List Int // L.length ≤ maxLen }) : List AV := [.list 1 (L.1.map ic)]
theorem encD_inj {β : Type} {f : { L : List Int // L.length ≤ maxLen } → β} : ∀ x y, encD x = encD y → f x = f y := fun x y h => by
  simp only [encD, List.cons.injEq, AV.list.injEq, true_and, and_true] at h
  rw [Subtype.ext (map_inj ic_inj h)]
noncomputable def placesS : SpecFn := mkS encD fun L => (.tup [.agg (vA 1 (nds L.1) (plP L.1)), .agg [.int .i64 (high L.1), .int .i64 0, .int .i64 3]], [])
theorem placesS_eq (L : List Int) (h : L.length ≤ maxLen) : placesS [.list 1 (L.map ic)] [] = some (.tup [.agg [.int .i64 1, .list 1 ((nds L).map ic), .nils, plP L, .nils, .nils], .agg [.int .i64 (high L), .int .i64 0, .int .i64 3]], []) := mkS_eq (enc := encD) encD_inj ⟨L, h⟩
def dk1 (L : List Int) (k : Nat) : ABlk := { gen := 1, kind := 2, elem := 109, size := 2, inl := false, rows := [[.list 1 (L.map ic), .int .i64 (k : Nat)]] }
def tB : ABlk := { gen := 1, kind := 2, elem := 26, size := 3, inl := false, rows := [[.int .i64 0, .int .i64 0, .int .i64 0]] }
theorem places_ok : FnC Try.prog 8 placesS := by
  refine FnC.walk 8 (fn := Try.f8) Try.func8 rfl (by kernel_rfl) fun L => ?_
  obtain ⟨L, hL⟩ := L
  change W _ _ _ _ ⟨33, [(0, .list 1 (L.map ic))], []⟩
  dsimp only
  have r0 := rangeS_eq L 0 1 3 hL (Nat.zero_le _) (by omega) (by omega) (by omega)
  have k1 : nk L 0 ≤ L.length := nk_le (Nat.zero_le _)
  have n0 := nextS_eq L (nk L 0) 14 hL k1 (by omega) (by omega)
  simp only [Int.natCast_zero, Int.ofNat_zero] at r0
  have a0 := nx_nonneg L 0 (n := 3) (by omega)
  have a1 := nx_lt L 0 (n := 3) (by omega)
  obtain ⟨n, hn⟩ : ∃ n : Nat, 1 + nx L 0 3 = n := ⟨(1 + nx L 0 3).toNat, by omega⟩
  have hnd : ndN L = n := by simp [ndN, hn]
  have e3 : (3 : Int) - 1 + 1 = 3 := by decide
  rw [e3, hn] at r0
  have hn3 : n ≤ 3 := by omega
  have hn3' : (n : Int) ≤ 3 := by omega
  have hns : List.take n [[AV.int .i64 0], [AV.int .i64 1], [AV.int .i64 2]] = (nds L).map ic := by
    rw [nds, hnd, List.map_take]; rfl
  obtain ⟨m, hm⟩ : ∃ m : Nat, nx L (nk L 0) 14 = m := ⟨(nx L (nk L 0) 14).toNat, by have := nx_nonneg L (nk L 0) (n := 14) (by omega); omega⟩
  have hm14 := nx_lt L (nk L 0) (n := 14) (by omega)
  have hpN : plN L = m := by simp [plN, hm]
  rw [hm] at n0 hm14
  have k2 : nk L (nk L 0) ≤ L.length := nk_le k1
  repeat (first | refine N.seq ?_ | refine N.blk ?_ | refine W.seq rfl ?_ | refine W.block rfl ?_ | refine W.skip rfl ?_ | refine W.ret rfl ?_ | refine N.nil ?_ | refine N.loop ?_ | refine W.exit rfl ?_ | refine X.seq ?_ | refine X.loop ?_ | refine X.hit ?_ | refine X.pass (by decide) ?_ | refine W.condT rfl (by rfl) ?_ | refine W.condF rfl (by rfl) ?_ | refine W.region tm pc_specs_ok rfl (by conv => lhs; simp [r0, n0, hn3, hn3', hns, maxLen]) fun _ => ?_ | refine W.regionD tm pc_specs_ok rfl (by conv => lhs; simp [r0, n0, hn3, hn3', hns, maxLen]) (by conv => lhs; simp) (by kernel_rfl) fun _ => ?_)
  refine W.frz 12 rfl (by conv => lhs; simp [frqT, frqV, frqVs, frqL, frq1, hn3, hns]) ?_
  have hR : plG L m (nk L (nk L 0)) [] = plR L := by rw [plR, hpN]
  refine W.loop rfl (ι := { q : Nat × Nat × List Pl × AV × AV × NL ABlk // q.2.1 ≤ L.length ∧ q.2.2.1.length + q.1 ≤ 14 ∧ plG L q.1 q.2.1 q.2.2.1 = plR L ∧
      (q.1 = m ∧ q.2.2.2.1 = .sl 160 1 0 n ∧ q.2.2.2.2.1 = .nils ∧ q.2.2.1 = [] ∨ q.1 < m ∧ q.2.2.2.1 = .list 1 ((nds L).map ic) ∧ q.2.2.2.2.1 = plL q.2.2.1) ∧
      lk q.2.2.2.2.2 48 = some zB ∧ lk q.2.2.2.2.2 64 = some tB ∧ lk q.2.2.2.2.2 144 = some (dk1 L q.2.1) ∧ lk q.2.2.2.2.2 160 = some { gen := 1, kind := 1, elem := 3, size := 1, inl := true, rows := [[.int .i64 0], [.int .i64 1], [.int .i64 2]] } ∧
      lk q.2.2.2.2.2 96 = some { gen := 1, kind := 2, elem := 38, size := 6, inl := false, rows := [[.int .i64 1, q.2.2.2.1, .nils, q.2.2.2.2.1, .nils, .nils]] } })
    (fun q => ⟨33, [(2, .ptr 48 1 0 0), (3, .ptr 64 1 0 0), (4, .ptr 144 1 0 0), (5, .ptr 96 1 0 0), (6, .int .i64 q.1.1)], q.1.2.2.2.2.2⟩) (fun q => q.1.1)
    ⟨(m, nk L (nk L 0), [], .sl 160 1 0 n, .nils, _), k2, by simp; omega, hR, by simp, by rfl, by rfl, by rfl, by rfl, by rfl⟩ (AS.le_of rfl ⟨rfl, rfl, rfl, rfl, rfl, trivial⟩ (fun _ => rfl)) ?_
  clear r0 n0
  rintro ⟨⟨k, p, T, N, P, h⟩, hp, hT, hg, hNP, h1, h2, h3, h4, h5⟩
  dsimp only at hp hT hg hNP h1 h2 h3 h4 h5 ⊢
  match k, hT, hg, hNP with
  | 0, hT, hg, hNP =>
    simp only [plG] at hg
    have r1 := rangeS_eq L p 1 600 hL hp (by omega) (by omega) (by omega)
    have e6 : (600 : Int) - 1 + 1 = 600 := by decide
    rw [e6] at r1
    have hhi : high L = 1 + nx L p 600 := by rw [high, ← hg]
    rw [← hhi] at r1
    rcases hNP with ⟨hk, rfl, rfl, rfl⟩ | ⟨hk, rfl, rfl⟩
    · have hP : plP L = .nils := by simp [plP, hpN, ← hk]
      repeat (first | refine N.seq ?_ | refine N.blk ?_ | refine W.seq rfl ?_ | refine W.block rfl ?_ | refine W.skip rfl ?_ | refine W.ret rfl ?_ | refine N.nil ?_ | refine N.loop ?_ | refine W.exit rfl ?_ | refine X.seq ?_ | refine X.loop ?_ | refine X.hit ?_ | refine X.pass (by decide) ?_ | refine W.condT rfl (by rfl) ?_ | refine W.condF rfl (by rfl) ?_ | refine W.region tm pc_specs_ok rfl (by conv => lhs; simp [h1, h2, h3, h4, h5, dk1, zB, tB, r1]) fun _ => ?_ | refine W.regionD tm pc_specs_ok rfl (by conv => lhs; simp [h1, h2, h3, h4, h5, dk1, zB, tB, r1]) (by conv => lhs; simp) (by kernel_rfl) fun _ => ?_)
      simp only [hP, vA, ← hns]
      first | exact Ret.dataR rfl (by conv => lhs; simp [h4, hn3]) (by conv => lhs; simp [h4, hn3]) (by first | rfl | simp [inlT, inlV]) | fail "no return here"
    · have hP : plP L = plL T := by rw [plP, if_neg (by omega), ← hg]
      repeat (first | refine N.seq ?_ | refine N.blk ?_ | refine W.seq rfl ?_ | refine W.block rfl ?_ | refine W.skip rfl ?_ | refine W.ret rfl ?_ | refine N.nil ?_ | refine N.loop ?_ | refine W.exit rfl ?_ | refine X.seq ?_ | refine X.loop ?_ | refine X.hit ?_ | refine X.pass (by decide) ?_ | refine W.condT rfl (by rfl) ?_ | refine W.condF rfl (by rfl) ?_ | refine W.region tm pc_specs_ok rfl (by conv => lhs; simp [h1, h2, h3, h4, h5, dk1, zB, tB, r1, plL]) fun _ => ?_ | refine W.regionD tm pc_specs_ok rfl (by conv => lhs; simp [h1, h2, h3, h4, h5, dk1, zB, tB, r1, plL]) (by conv => lhs; simp) (by kernel_rfl) fun _ => ?_)
      simp only [hP, vA, plL]
      first | exact Ret.dataR rfl (by conv => lhs; simp) (by conv => lhs; simp) (by first | rfl | simp [inlT, inlV]) | fail "no return here"
  | k + 1, hT, hg, hNP =>
    have p1 := nk_le hp
    have p2 := nk_le p1
    have p3 := nk_le p2
    have r1 := rangeS_eq L p 1 20 hL hp (by omega) (by omega) (by omega)
    have r2 := rangeS_eq L (nk L p) 1 3 hL p1 (by omega) (by omega) (by omega)
    have e2 : (20 : Int) - 1 + 1 = 20 := by decide
    rw [e2] at r1
    rw [e3] at r2
    have b0 := nx_nonneg L p (n := 20) (by omega)
    have b1 := nx_lt L p (n := 20) (by omega)
    have c0 := nx_nonneg L (nk L p) (n := 3) (by omega)
    have c1 := nx_lt L (nk L p) (n := 3) (by omega)
    have r3 := nextS_eq L (nk L (nk L p)) (1 + nx L (nk L p) 3) hL p2 (by omega) (by omega)
    have w1 : IntKind.u64.wrap (1 + nx L p 20) = 1 + nx L p 20 := wu64 (by omega) (by omega)
    have w3 : IntKind.i64.wrap ((k : Int) + 1 - 1) = (k : Int) := by rw [show (k : Int) + 1 - 1 = k by omega]; exact w64 (by omega) (by omega)
    have w4 : IntKind.i64.wrap (k : Int) = (k : Int) := w64 (by omega) (by omega)
    have q0 : (0 : Int) < (k : Int) + 1 := by omega
    simp only [plG] at hg
    have hal := asg_len T (1 + nx L p 20) (nx L (nk L (nk L p)) (1 + nx L (nk L p) 3))
    have hnl : (nds L).length ≤ 8 := by simp [nds]; omega
    rcases hNP with ⟨hk, rfl, rfl, rfl⟩ | ⟨hk, rfl, rfl⟩
    · have hA := asgrS_eq 1 (nds L) .nils [] (1 + nx L p 20) (nx L (nk L (nk L p)) (1 + nx L (nk L p) 3)) (.inr ⟨rfl, rfl⟩) hnl (by simp)
      repeat (first | refine N.seq ?_ | refine N.blk ?_ | refine W.seq rfl ?_ | refine W.block rfl ?_ | refine W.skip rfl ?_ | refine W.ret rfl ?_ | refine N.nil ?_ | refine N.loop ?_ | refine W.exit rfl ?_ | refine X.seq ?_ | refine X.loop ?_ | refine X.hit ?_ | refine X.pass (by decide) ?_ | refine W.condT rfl (by rfl) ?_ | refine W.condF rfl (by rfl) ?_ | refine W.region tm pc_specs_ok rfl (by conv => lhs; simp [h1, h2, h3, h4, h5, dk1, zB, tB, r1, r2, r3, w1, w3, w4, q0, hA, hns, hn3]) fun _ => ?_ | refine W.regionD tm pc_specs_ok rfl (by conv => lhs; simp [h1, h2, h3, h4, h5, dk1, zB, tB, r1, r2, r3, w1, w3, w4, q0, hA, hns, hn3]) (by conv => lhs; simp) (by kernel_rfl) fun _ => ?_)
      exact ⟨⟨(k, nk L (nk L (nk L p)), asg [] (1 + nx L p 20) (nx L (nk L (nk L p)) (1 + nx L (nk L p) 3)), .list 1 ((nds L).map ic), plL (asg [] (1 + nx L p 20) (nx L (nk L (nk L p)) (1 + nx L (nk L p) 3))), _), p3, by dsimp only at hal ⊢; simp only [List.length_nil] at hal; omega, hg, .inr ⟨by dsimp only; omega, rfl, rfl⟩, by simp [lk_st, h1, zB], by simp [lk_st, h2, tB], by simp [lk_st, dk1], by simp [lk_st, h4], by simp [lk_st, plL]⟩, by dsimp only; omega, AS.le_of rfl ⟨rfl, rfl, rfl, rfl, rfl, trivial⟩ (fun _ => rfl)⟩
    · have hA := asgrS_eq 1 (nds L) (plL T) T (1 + nx L p 20) (nx L (nk L (nk L p)) (1 + nx L (nk L p) 3)) (isP_plL T) hnl (by omega)
      simp only [plL] at hA
      repeat (first | refine N.seq ?_ | refine N.blk ?_ | refine W.seq rfl ?_ | refine W.block rfl ?_ | refine W.skip rfl ?_ | refine W.ret rfl ?_ | refine N.nil ?_ | refine N.loop ?_ | refine W.exit rfl ?_ | refine X.seq ?_ | refine X.loop ?_ | refine X.hit ?_ | refine X.pass (by decide) ?_ | refine W.condT rfl (by rfl) ?_ | refine W.condF rfl (by rfl) ?_ | refine W.region tm pc_specs_ok rfl (by conv => lhs; simp [h1, h2, h3, h4, h5, dk1, zB, tB, r1, r2, r3, w1, w3, w4, q0, hA, plL]) fun _ => ?_ | refine W.regionD tm pc_specs_ok rfl (by conv => lhs; simp [h1, h2, h3, h4, h5, dk1, zB, tB, r1, r2, r3, w1, w3, w4, q0, hA, plL]) (by conv => lhs; simp) (by kernel_rfl) fun _ => ?_)
      exact ⟨⟨(k, nk L (nk L (nk L p)), asg T (1 + nx L p 20) (nx L (nk L (nk L p)) (1 + nx L (nk L p) 3)), .list 1 ((nds L).map ic), plL (asg T (1 + nx L p 20) (nx L (nk L (nk L p)) (1 + nx L (nk L p) 3))), _), p3, by dsimp only; omega, hg, .inr ⟨by dsimp only; omega, rfl, rfl⟩, by simp [lk_st, h1, zB], by simp [lk_st, h2, tB], by simp [lk_st, dk1], by simp [lk_st, h4], by simp [lk_st, plL]⟩, by dsimp only; omega, AS.le_of rfl ⟨rfl, rfl, rfl, rfl, rfl, trivial⟩ (fun _ => rfl)⟩
end Go.Abs.Po
