/- Groups, as the reference has them. Conditions: none. -/
import Derived.Test.YtkalkcgbecbgpaaPo3
import Derived.Test.YtkalkcgbecbgpaaPo2
namespace Go.Abs.Po
open Go Go.Proofs Go.Abs
set_option maxRecDepth 100000
set_option maxHeartbeats 4000000
set_option linter.unusedSimpArgs false
set_option linter.unusedVariables false
attribute [local simp] runL stepA execA_eq skipA run_ret run_fail run_get run_put run_asm num lk st lk_st putA AS.ev ofValue ofFlat mkv splice fieldAddrA buildA fillA runF gdst pickA unOpA extractA resVs resV pack frzT inlT inlV frzV frzVs frzL frz1 newId AV.cellsOf AV.flat AV.flat2 specOf loadA_runR capA copyA copyTo srcA sliceCA slice3A appendZA extA AV.place lenCA clearA clearTo expG expB3 List.zipWith renL fF handB renB AV.ren backF backL idsOf freshIds refsL refsB AV.refs List.range List.range.loop placesA sliceRows rowsOf convertA sliceArrA sliceA bndA nilCheckA arrayAtA mmA lookupA keyOf keyOK findA keyEqA foundA makeMapA mapUpdateA appendA rowsA indexA partA fieldA retE2 frqT frqV frqVs frqL frq1 reachE blkRefs outE nodupE firstE seqO expB2 expF instA take_len_map List.findIdx?_cons List.findIdx?_nil
def gstep (gs : List (List Int)) (t : Tk) : List (List Int) :=
  let a := whr gs t.a 0
  let b := whr gs t.b 0
  if a < 0 ∨ b < 0 ∨ a = b then gs else
  let A := (gs[a.toNat]?).getD []
  let B := (gs[b.toNat]?).getD []
  if 16 < A.length + B.length then gs else
  if a < b then (gs.set a.toNat (ordd (A ++ B))).take b.toNat ++ (gs.set a.toNat (ordd (A ++ B))).drop (b.toNat + 1)
  else (gs.set b.toNat (ordd (B ++ A))).take a.toNat ++ (gs.set b.toNat (ordd (B ++ A))).drop (a.toNat + 1)
def allP (ps : List Int) : List Int := ps.foldl add1 []
theorem allP_step {ps : List Int} {k : Nat} {x : Int} (h : ps[k]? = some x) : allP (ps.take (k + 1)) = add1 (allP (ps.take k)) x := by
  rw [allP, List.take_add_one, h]
  simp [allP]
theorem allP_len (ps : List Int) : (allP ps).length ≤ ps.length := by
  have : ∀ (l acc : List Int), (l.foldl add1 acc).length ≤ acc.length + l.length := by
    intro l
    induction l with
    | nil => simp
    | cons x r ih =>
      intro acc
      rw [List.foldl_cons]
      have := add1_len acc x
      have := ih (add1 acc x)
      rw [List.length_cons]; omega
  simpa [allP] using this ps []
def one (p : Int) : List Int := [p]
def gB (g : Nat) (gs : List (List Int)) : ABlk := { gen := g, kind := 2, elem := 30, size := 1, inl := true, rows := gs.map gL }
/-- Few groups, of few members. -/
def Few (n : Nat) (gs : List (List Int)) : Prop := gs.length ≤ n ∧ ∀ g ∈ gs, g.length ≤ 16
theorem Few.step {n : Nat} {gs : List (List Int)} (h : Few n gs) (t : Tk) : Few n (gstep gs t) := by
  unfold gstep
  dsimp only
  split
  · exact h
  · split
    · exact h
    · rename_i h1 h2
      have hs : ∀ (i : Nat) (C : List Int), C.length ≤ 16 → ∀ g ∈ gs.set i C, g.length ≤ 16 := fun i C hC g hg => by
        rcases List.mem_or_eq_of_mem_set hg with h3 | rfl
        · exact h.2 g h3
        · exact hC
      have key : ∀ (i j : Nat) (C : List Int), C.length ≤ 16 → Few n ((gs.set i C).take j ++ (gs.set i C).drop (j + 1)) := fun i j C hC => by
        refine ⟨?_, fun g hg => ?_⟩
        · have := h.1
          simp; omega
        · rw [List.mem_append] at hg
          rcases hg with hg | hg
          · exact hs i C hC g (List.mem_of_mem_take hg)
          · exact hs i C hC g (List.mem_of_mem_drop hg)
      split
      · exact key _ _ _ (by rw [ord_len]; simp at h2 ⊢; omega)
      · exact key _ _ _ (by rw [ord_len]; simp at h2 ⊢; omega)
def grps (T : List Tk) (m : Int) (ps : List Int) : List (List Int) := (sortT m T).foldl gstep ((ordd (allP ps)).map one)
theorem grps_few (T : List Tk) (m : Int) (ps : List Int) : Few ps.length (grps T m ps) := by
  have : ∀ (l : List Tk) (gs : List (List Int)), Few ps.length gs → Few ps.length (l.foldl gstep gs) := by
    intro l
    induction l with
    | nil => exact fun gs h => h
    | cons t r ih => exact fun gs h => ih _ (h.step t)
  refine this _ _ ⟨?_, fun g hg => ?_⟩
  · rw [List.length_map, ord_len]; exact allP_len ps
  · simp only [List.mem_map, one] at hg
    obtain ⟨p, _, rfl⟩ := hg
    simp
theorem foldl_step {α β : Type} (f : β → α → β) (z : β) {l : List α} {i : Nat} {x : α} (hx : l[i]? = some x) : (l.take (i + 1)).foldl f z = f ((l.take i).foldl f z) x := by
  rw [List.take_add_one, hx]
  simp
noncomputable def gr_specs : NL Spec := [(49, ⟨3, addS⟩), (50, ⟨1, ordS⟩), (51, ⟨1, sortTS⟩), (52, ⟨0, whrS⟩)]
theorem gr_specs_ok : ∀ p ∈ gr_specs, FnC Try.prog p.1 p.2.fn := by
  simp only [gr_specs, List.mem_cons, List.not_mem_nil, or_false]
  rintro p (rfl | rfl | rfl | rfl)
  · exact add_ok
  · exact ord_ok
  · exact sortT_ok
  · exact whr_ok
attribute [local simp] gr_specs
def UL1 := { l : List Int // l.length ≤ 200 }
def encGr (x : Tks × Int × UL1) : List AV := [.list 3 (x.1.1.map Tk.cells), .int .i64 x.2.1, .list 1 (x.2.2.1.map uc)]
theorem encGr_inj {β : Type} {f : Tks × Int × UL1 → β} : ∀ x y, encGr x = encGr y → f x = f y := fun x y h => by
  simp only [encGr, List.cons.injEq, AV.list.injEq, AV.int.injEq, true_and, and_true] at h
  rw [Prod.ext (Subtype.ext (map_inj Tk.inj h.1)) (Prod.ext h.2.1 (Subtype.ext (map_inj uc_inj h.2.2)))]
noncomputable def grpS : SpecFn := mkS encGr fun x => (.list 1 ((grps x.1.1 x.2.1 x.2.2.1).map gL), [])
theorem grpS_eq (T : List Tk) (m : Int) (ps : List Int) (h : T.length ≤ 200) (h' : ps.length ≤ 200) : grpS [.list 3 (T.map Tk.cells), .int .i64 m, .list 1 (ps.map uc)] [] = some (.list 1 ((grps T m ps).map gL), []) := mkS_eq (enc := encGr) encGr_inj (⟨T, h⟩, m, ⟨ps, h'⟩)
theorem grp_ok : FnC Try.prog 29 grpS := by
  refine FnC.walk 29 (fn := Try.f29) Try.func29 rfl (by kernel_rfl) fun x => ?_
  obtain ⟨⟨T, hT⟩, m, ⟨ps, hps⟩⟩ := x
  change W _ _ _ _ ⟨120, [(0, .list 3 (T.map Tk.cells)), (1, .int .i64 m), (2, .list 1 (ps.map uc))], []⟩
  dsimp only
  repeat (first | refine N.seq ?_ | refine N.blk ?_ | refine W.seq rfl ?_ | refine W.block rfl ?_ | refine W.skip rfl ?_ | refine W.ret rfl ?_ | refine N.nil ?_ | refine N.loop ?_ | refine W.exit rfl ?_ | refine X.seq ?_ | refine X.loop ?_ | refine X.hit ?_ | refine X.pass (by decide) ?_ | refine W.condT rfl (by rfl) ?_ | refine W.condF rfl (by rfl) ?_ | refine W.region tm gr_specs_ok rfl (by conv => lhs; simp) fun _ => ?_ | refine W.regionD tm gr_specs_ok rfl (by conv => lhs; simp) (by conv => lhs; simp) (by kernel_rfl) fun _ => ?_)
  refine W.phantom (t := 7) 2000 55 1 true rfl (by rfl) (by decide) ?_
  refine W.loop rfl (ι := { q : Nat × Nat × NL ABlk // q.1 ≤ ps.length ∧ lk q.2.2 2000 = some (uB q.2.1 (allP (ps.take q.1))) ∧ lk q.2.2 1760 = none })
    (fun q => ⟨120, [(0, .list 3 (T.map Tk.cells)), (1, .int .i64 m), (2, .list 1 (ps.map uc)), (7, .sl 2000 q.1.2.1 0 (allP (ps.take q.1.1)).length), (8, .int .i64 (q.1.1 : Nat))], q.1.2.2⟩) (fun q => ps.length - q.1.1)
    ⟨(0, 0, _), by simp, by rfl, by rfl⟩ (AS.le_of rfl ⟨rfl, rfl, rfl, rfl, rfl, trivial⟩ (fun _ => rfl)) ?_
  rintro ⟨⟨k, g, h⟩, hk, h1, h2⟩
  dsimp only at hk h1 h2 ⊢
  by_cases hk2 : k = ps.length
  · subst hk2
    rw [List.take_length] at h1 ⊢
    have hal := allP_len ps
    have hO := ordS_eq (allP ps) (by omega)
    have hol : (ordd (allP ps)).length ≤ 200 := by rw [ord_len]; omega
    have hO2 : grps T m ps = (sortT m T).foldl gstep ((ordd (allP ps)).map one) := rfl
    have hol2 : (ordd (allP ps)).length ≤ ps.length := by rw [ord_len]; exact hal
    repeat (first | refine N.seq ?_ | refine N.blk ?_ | refine W.seq rfl ?_ | refine W.block rfl ?_ | refine W.skip rfl ?_ | refine W.ret rfl ?_ | refine N.nil ?_ | refine N.loop ?_ | refine W.exit rfl ?_ | refine X.seq ?_ | refine X.loop ?_ | refine X.hit ?_ | refine X.pass (by decide) ?_ | refine W.condT rfl (by rfl) ?_ | refine W.condF rfl (by rfl) ?_ | refine W.region tm gr_specs_ok rfl (by conv => lhs; simp [h1, uB, hO]) fun _ => ?_ | refine W.regionD tm gr_specs_ok rfl (by conv => lhs; simp [h1, uB, hO]) (by conv => lhs; simp) (by kernel_rfl) fun _ => ?_)
    generalize ordd (allP ps) = O at hol hol2 hO2 ⊢
    refine W.phantom (t := 9) 1760 30 1 true rfl (by simp [lk_st, h2]) (by decide) ?_
    refine W.loop rfl (ι := { q : Nat × NL ABlk // q.1 ≤ O.length ∧ lk q.2 1760 = some (gB q.1 ((O.take q.1).map one)) })
      (fun q => ⟨120, [(0, .list 3 (T.map Tk.cells)), (1, .int .i64 m), (9, .sl 1760 q.1.1 0 q.1.1), (29, .list 1 (O.map uc)), (30, .int .i64 O.length), (31, .int .i64 (q.1.1 : Nat))], q.1.2⟩) (fun q => O.length - q.1.1)
      ⟨(0, _), by simp, by rfl⟩ (AS.le_of rfl ⟨rfl, rfl, rfl, rfl, rfl, rfl, trivial⟩ (fun _ => rfl)) ?_
    clear h1 h2 h hO
    rintro ⟨⟨k, h⟩, hk, h1⟩
    dsimp only at hk h1 ⊢
    by_cases hk2 : k = O.length
    · subst hk2
      rw [List.take_length] at h1
      have hS := sortTS_eq T m hT
      have hsl := sortT_len m T
      have hf0 : Few ps.length (O.map one) := ⟨by simpa using hol2, fun g hg => by
        simp only [List.mem_map, one] at hg
        obtain ⟨p, _, rfl⟩ := hg
        simp⟩
      repeat (first | refine N.seq ?_ | refine N.blk ?_ | refine W.seq rfl ?_ | refine W.block rfl ?_ | refine W.skip rfl ?_ | refine W.ret rfl ?_ | refine N.nil ?_ | refine N.loop ?_ | refine W.exit rfl ?_ | refine X.seq ?_ | refine X.loop ?_ | refine X.hit ?_ | refine X.pass (by decide) ?_ | refine W.condT rfl (by rfl) ?_ | refine W.condF rfl (by rfl) ?_ | refine W.region tm gr_specs_ok rfl (by conv => lhs; simp [h1, hS]) fun _ => ?_ | refine W.regionD tm gr_specs_ok rfl (by conv => lhs; simp [h1, hS]) (by conv => lhs; simp) (by kernel_rfl) fun _ => ?_)
      generalize sortT m T = U at hO2 hsl
      refine W.loop rfl (ι := { q : Nat × Nat × NL ABlk // q.1 ≤ U.length ∧ Few ps.length ((U.take q.1).foldl gstep (O.map one)) ∧ lk q.2.2 1760 = some (gB q.2.1 ((U.take q.1).foldl gstep (O.map one))) })
        (fun q => ⟨120, [(9, .sl 1760 q.1.2.1 0 ((U.take q.1.1).foldl gstep (O.map one)).length), (12, .list 3 (U.map Tk.cells)), (13, .int .i64 (q.1.1 : Nat))], q.1.2.2⟩) (fun q => U.length - q.1.1)
        ⟨(0, O.length, _), by simp, by simpa using hf0, by simp [h1]⟩ (AS.le_of rfl ⟨by simp [lk], rfl, rfl, trivial⟩ (fun _ => rfl)) ?_
      clear h1 hS h
      rintro ⟨⟨k, g, h⟩, hk, hf, h1⟩
      dsimp only at hk hf h1 ⊢
      by_cases hk2 : k = U.length
      · subst hk2
        rw [List.take_length] at h1 hf ⊢
        repeat (first | refine N.seq ?_ | refine N.blk ?_ | refine W.seq rfl ?_ | refine W.block rfl ?_ | refine W.skip rfl ?_ | refine W.ret rfl ?_ | refine N.nil ?_ | refine N.loop ?_ | refine W.exit rfl ?_ | refine X.seq ?_ | refine X.loop ?_ | refine X.hit ?_ | refine X.pass (by decide) ?_ | refine W.condT rfl (by rfl) ?_ | refine W.condF rfl (by rfl) ?_ | refine W.region tm gr_specs_ok rfl (by conv => lhs; simp [h1]) fun _ => ?_ | refine W.regionD tm gr_specs_ok rfl (by conv => lhs; simp [h1]) (by conv => lhs; simp) (by kernel_rfl) fun _ => ?_)
        rw [hO2]
        first | exact Ret.dataR rfl (by conv => lhs; simp [h1, gB]) (by conv => lhs; simp [h1, gB]) (by first | rfl | simp [inlT, inlV]) | fail "no return here"
      · have hlt : k < U.length := by omega
        obtain ⟨t, hx⟩ := get_lt hlt
        have q1 : (k : Int) < U.length := by omega
        have q2 : ¬ U.length ≤ k := by omega
        have hw := w64_succ hlt (capX (by omega))
        have hst := foldl_step gstep (O.map one) hx
        have hfs := hf.step t
        generalize (U.take k).foldl gstep (O.map one) = gs at hf h1 hst hfs ⊢
        have hgl := hf.1
        have hA := whrS_eq gs t.a (by omega) (fun g hg => by have := hf.2 g hg; omega)
        have hB := whrS_eq gs t.b (by omega) (fun g hg => by have := hf.2 g hg; omega)
        rcases whr_lt gs t.a 0 with ha | ⟨ha0, ha1⟩
        · have hgs : gstep gs t = gs := by unfold gstep; dsimp only; rw [if_pos (.inl (by rw [ha]; decide))]
          rw [ha] at hA
          repeat (first | refine N.seq ?_ | refine N.blk ?_ | refine W.seq rfl ?_ | refine W.block rfl ?_ | refine W.skip rfl ?_ | refine W.ret rfl ?_ | refine N.nil ?_ | refine N.loop ?_ | refine W.exit rfl ?_ | refine X.seq ?_ | refine X.loop ?_ | refine X.hit ?_ | refine X.pass (by decide) ?_ | refine W.condT rfl (by rfl) ?_ | refine W.condF rfl (by rfl) ?_ | refine W.region tm gr_specs_ok rfl (by conv => lhs; simp [q1, q2, hx, h1, gB, Tk.cells, hA, hB, hw]) fun _ => ?_ | refine W.regionD tm gr_specs_ok rfl (by conv => lhs; simp [q1, q2, hx, h1, gB, Tk.cells, hA, hB, hw]) (by conv => lhs; simp) (by kernel_rfl) fun _ => ?_)
          exact ⟨⟨(k + 1, g, _), hlt, by dsimp only; rw [hst]; exact hfs, by dsimp only; rw [hst, hgs]; simp [lk_st, h1]⟩, by dsimp only; omega, AS.le_of rfl ⟨by dsimp only; rw [hst, hgs]; rfl, rfl, rfl, trivial⟩ (fun _ => rfl)⟩
        · rcases whr_lt gs t.b 0 with hb | ⟨hb0, hb1⟩
          · have hgs : gstep gs t = gs := by unfold gstep; dsimp only; rw [if_pos (.inr (.inl (by rw [hb]; decide)))]
            rw [hb] at hB
            have hna : ¬ whr gs t.a 0 < 0 := by omega
            repeat (first | refine N.seq ?_ | refine N.blk ?_ | refine W.seq rfl ?_ | refine W.block rfl ?_ | refine W.skip rfl ?_ | refine W.ret rfl ?_ | refine N.nil ?_ | refine N.loop ?_ | refine W.exit rfl ?_ | refine X.seq ?_ | refine X.loop ?_ | refine X.hit ?_ | refine X.pass (by decide) ?_ | refine W.condT rfl (by rfl) ?_ | refine W.condF rfl (by rfl) ?_ | refine W.region tm gr_specs_ok rfl (by conv => lhs; simp [q1, q2, hx, h1, gB, Tk.cells, hA, hB, hna, hw]) fun _ => ?_ | refine W.regionD tm gr_specs_ok rfl (by conv => lhs; simp [q1, q2, hx, h1, gB, Tk.cells, hA, hB, hna, hw]) (by conv => lhs; simp) (by kernel_rfl) fun _ => ?_)
            exact ⟨⟨(k + 1, g, _), hlt, by dsimp only; rw [hst]; exact hfs, by dsimp only; rw [hst, hgs]; simp [lk_st, h1]⟩, by dsimp only; omega, AS.le_of rfl ⟨by dsimp only; rw [hst, hgs]; rfl, rfl, rfl, trivial⟩ (fun _ => rfl)⟩
          · obtain ⟨i, hi⟩ : ∃ i : Nat, whr gs t.a 0 = i := ⟨(whr gs t.a 0).toNat, by omega⟩
            obtain ⟨j, hj⟩ : ∃ j : Nat, whr gs t.b 0 = j := ⟨(whr gs t.b 0).toNat, by omega⟩
            have hil : i < gs.length := by omega
            have hjl : j < gs.length := by omega
            clear ha0 ha1 hb0 hb1
            obtain ⟨A, hgi⟩ := get_lt hil
            obtain ⟨B, hgj⟩ := get_lt hjl
            have hAl := hf.2 A (List.mem_of_getElem? hgi)
            have hBl := hf.2 B (List.mem_of_getElem? hgj)
            have qi : (i : Int) < gs.length := by omega
            have qj : (j : Int) < gs.length := by omega
            have qi' : ¬ gs.length ≤ i := by omega
            have qj' : ¬ gs.length ≤ j := by omega
            have ni : ¬ (i : Int) < 0 := by omega
            have nj : ¬ (j : Int) < 0 := by omega
            rw [hi] at hA
            rw [hj] at hB
            by_cases hij : i = j
            · have hgs : gstep gs t = gs := by unfold gstep; dsimp only; rw [if_pos (.inr (.inr (by rw [hi, hj, hij])))]
              have hne : ((i : Int) == (j : Int)) = true := beq_iff_eq.2 (by omega)
              repeat (first | refine N.seq ?_ | refine N.blk ?_ | refine W.seq rfl ?_ | refine W.block rfl ?_ | refine W.skip rfl ?_ | refine W.ret rfl ?_ | refine N.nil ?_ | refine N.loop ?_ | refine W.exit rfl ?_ | refine X.seq ?_ | refine X.loop ?_ | refine X.hit ?_ | refine X.pass (by decide) ?_ | refine W.condT rfl (by rfl) ?_ | refine W.condF rfl (by rfl) ?_ | refine W.region tm gr_specs_ok rfl (by conv => lhs; simp [q1, q2, hx, h1, gB, Tk.cells, hA, hB, hne, ni, nj, hw]) fun _ => ?_ | refine W.regionD tm gr_specs_ok rfl (by conv => lhs; simp [q1, q2, hx, h1, gB, Tk.cells, hA, hB, hne, ni, nj, hw]) (by conv => lhs; simp) (by kernel_rfl) fun _ => ?_)
              exact ⟨⟨(k + 1, g, _), hlt, by dsimp only; rw [hst]; exact hfs, by dsimp only; rw [hst, hgs]; simp [lk_st, h1]⟩, by dsimp only; omega, AS.le_of rfl ⟨by dsimp only; rw [hst, hgs]; rfl, rfl, rfl, trivial⟩ (fun _ => rfl)⟩
            · have hne : ((i : Int) == (j : Int)) = false := beq_eq_false_iff_ne.2 (by omega)
              have hcond : ¬ (whr gs t.a 0 < 0 ∨ whr gs t.b 0 < 0 ∨ whr gs t.a 0 = whr gs t.b 0) := by omega
              by_cases hs : 16 < A.length + B.length
              · have hgs : gstep gs t = gs := by
                  unfold gstep; dsimp only
                  rw [if_neg hcond, hi, hj]
                  simp only [Int.toNat_natCast, hgi, hgj, Option.getD_some]
                  rw [if_pos hs]
                have hsum : (16 : Int) < (A.length : Int) + B.length := by omega
                have hws : IntKind.i64.wrap ((A.length : Int) + B.length) = (A.length : Int) + B.length := w64 (by omega) (by omega)
                repeat (first | refine N.seq ?_ | refine N.blk ?_ | refine W.seq rfl ?_ | refine W.block rfl ?_ | refine W.skip rfl ?_ | refine W.ret rfl ?_ | refine N.nil ?_ | refine N.loop ?_ | refine W.exit rfl ?_ | refine X.seq ?_ | refine X.loop ?_ | refine X.hit ?_ | refine X.pass (by decide) ?_ | refine W.condT rfl (by rfl) ?_ | refine W.condF rfl (by rfl) ?_ | refine W.region tm gr_specs_ok rfl (by conv => lhs; simp [q1, q2, hx, h1, gB, Tk.cells, hA, hB, ni, nj, qi, qi', qj, qj', hgi, hgj, gL, hne, hsum, hws, hws, hw]) fun _ => ?_ | refine W.regionD tm gr_specs_ok rfl (by conv => lhs; simp [q1, q2, hx, h1, gB, Tk.cells, hA, hB, ni, nj, qi, qi', qj, qj', hgi, hgj, gL, hne, hsum, hws, hws, hw]) (by conv => lhs; simp) (by kernel_rfl) fun _ => ?_)
                exact ⟨⟨(k + 1, g, _), hlt, by dsimp only; rw [hst]; exact hfs, by dsimp only; rw [hst, hgs]; simp [lk_st, h1]⟩, by dsimp only; omega, AS.le_of rfl ⟨by dsimp only; rw [hst, hgs]; rfl, rfl, rfl, trivial⟩ (fun _ => rfl)⟩
              · have hsum : ¬ (16 : Int) < (A.length : Int) + B.length := by omega
                have hws : IntKind.i64.wrap ((A.length : Int) + B.length) = (A.length : Int) + B.length := w64 (by omega) (by omega)
                rcases Nat.lt_or_gt_of_ne hij with hij2 | hij2
                · skip
                  have hgs : gstep gs t = (gs.set i (ordd (A ++ B))).take j ++ (gs.set i (ordd (A ++ B))).drop (j + 1) := by
                    unfold gstep; dsimp only
                    rw [if_neg hcond, hi, hj]
                    simp only [Int.toNat_natCast, hgi, hgj, Option.getD_some]
                    rw [if_neg hs, if_pos (by omega)]
                  have hO : ordS [.list 1 (A.map uc ++ B.map uc)] [] = some (.list 1 ((ordd (A ++ B)).map uc), []) := by
                    have := ordS_eq (A ++ B) (by simp; omega)
                    simpa using this
                  have hset : (gs.map gL).set i [.list 1 ((ordd (A ++ B)).map uc)] = (gs.set i (ordd (A ++ B))).map gL := by
                    rw [List.map_set]; rfl
                  have hGl : (gs.set i (ordd (A ++ B))).length = gs.length := by simp
                  generalize gs.set i (ordd (A ++ B)) = G at hgs hset hGl
                  have hml : ∀ (l m : List Int), (l.map uc ++ m.map uc).length = l.length + m.length := fun l m => by simp
                  have y1 : A.length * 8 ≤ 140737488355328 := by omega
                  have y2 : (A.length + B.length) * 8 ≤ 140737488355328 := by omega
                  have y3 : A.length ≤ 9223372036854775807 := by omega
                  have y4 : A.length + B.length ≤ 9223372036854775807 := by omega
                  have htAB : List.take (A.length + B.length) (A.map uc ++ B.map uc) = A.map uc ++ B.map uc := List.take_of_length_le (by simp)
                  have hlt2 : ¬ (j : Int) < i := by omega
                  have hlt3 : (i : Int) < j := by omega
                  repeat (first | refine N.seq ?_ | refine N.blk ?_ | refine W.seq rfl ?_ | refine W.block rfl ?_ | refine W.skip rfl ?_ | refine W.ret rfl ?_ | refine N.nil ?_ | refine N.loop ?_ | refine W.exit rfl ?_ | refine X.seq ?_ | refine X.loop ?_ | refine X.hit ?_ | refine X.pass (by decide) ?_ | refine W.condT rfl (by rfl) ?_ | refine W.condF rfl (by rfl) ?_ | refine W.region tm gr_specs_ok rfl (by conv => lhs; simp [q1, q2, hx, h1, gB, Tk.cells, hA, hB, ni, nj, qi, qi', qj, qj', hgi, hgj, gL, hne, hsum, hws, hO, hset, y1, y2, y3, y4, htAB, hlt2, hlt3, maxLen]) fun _ => ?_ | refine W.regionD tm gr_specs_ok rfl (by conv => lhs; simp [q1, q2, hx, h1, gB, Tk.cells, hA, hB, ni, nj, qi, qi', qj, qj', hgi, hgj, gL, hne, hsum, hws, hO, hset, y1, y2, y3, y4, htAB, hlt2, hlt3, maxLen]) (by conv => lhs; simp) (by kernel_rfl) fun _ => ?_)
                  have hGt : List.take gs.length (G.map gL) = G.map gL := List.take_of_length_le (by simp; omega)
                  have hGm : gs.length ≤ G.length := by omega
                  refine W.frz 9 rfl (by conv => lhs; simp [frqT, frqV, frqVs, frqL, frq1, h1, gB, hGt, hGm]) ?_
                  have m1 : j ≤ G.length := by omega
                  have m2 : min j G.length = j := by omega
                  have m3 : j + 1 ≤ G.length := by omega
                  have wj : IntKind.i64.wrap ((j : Int) + 1) = ((j + 1 : Nat) : Int) := w64 (by omega) (by omega)
                  have n0 : (0 : Int) ≤ (j : Int) + 1 := by omega
                  have m4 : j * 24 ≤ 140737488355328 := by omega
                  have m5 : (j + (G.length - (j + 1))) * 24 ≤ 140737488355328 := by omega
                  have m6 : j ≤ 9223372036854775807 := by omega
                  have m7 : j + (G.length - (j + 1)) ≤ 9223372036854775807 := by omega
                  have f1 : firstRows j (List.take j (G.map gL)) = List.take j (G.map gL) := firstRows_full (by simp; omega)
                  have m8 : (gstep gs t).length = j + (G.length - (j + 1)) := by rw [hgs]; simp; omega
                  repeat (first | refine N.seq ?_ | refine N.blk ?_ | refine W.seq rfl ?_ | refine W.block rfl ?_ | refine W.skip rfl ?_ | refine W.ret rfl ?_ | refine N.nil ?_ | refine N.loop ?_ | refine W.exit rfl ?_ | refine X.seq ?_ | refine X.loop ?_ | refine X.hit ?_ | refine X.pass (by decide) ?_ | refine W.condT rfl (by rfl) ?_ | refine W.condF rfl (by rfl) ?_ | refine W.region tm gr_specs_ok rfl (by conv => lhs; simp [q1, q2, hx, h1, gB, m1, m2, m3, m4, m5, m6, m7, f1, n0, wj, hw, maxLen]) fun _ => ?_ | refine W.regionD tm gr_specs_ok rfl (by conv => lhs; simp [q1, q2, hx, h1, gB, m1, m2, m3, m4, m5, m6, m7, f1, n0, wj, hw, maxLen]) (by conv => lhs; simp) (by kernel_rfl) fun _ => ?_)
                  refine ⟨⟨(k + 1, _, _), hlt, by dsimp only; rw [hst]; exact hfs, ?_⟩, by dsimp only; omega, AS.le_of rfl ⟨by dsimp only; rw [hst, m8]; rfl, rfl, rfl, trivial⟩ (fun _ => rfl)⟩
                  dsimp only
                  rw [hst, hgs]
                  simp [lk_st, gB]
                · skip
                  have hgs : gstep gs t = (gs.set j (ordd (B ++ A))).take i ++ (gs.set j (ordd (B ++ A))).drop (i + 1) := by
                    unfold gstep; dsimp only
                    rw [if_neg hcond, hi, hj]
                    simp only [Int.toNat_natCast, hgi, hgj, Option.getD_some]
                    rw [if_neg hs, if_neg (by omega)]
                  have hO : ordS [.list 1 (B.map uc ++ A.map uc)] [] = some (.list 1 ((ordd (B ++ A)).map uc), []) := by
                    have := ordS_eq (B ++ A) (by simp; omega)
                    simpa using this
                  have hset : (gs.map gL).set j [.list 1 ((ordd (B ++ A)).map uc)] = (gs.set j (ordd (B ++ A))).map gL := by
                    rw [List.map_set]; rfl
                  have hGl : (gs.set j (ordd (B ++ A))).length = gs.length := by simp
                  generalize gs.set j (ordd (B ++ A)) = G at hgs hset hGl
                  have hml : ∀ (l m : List Int), (l.map uc ++ m.map uc).length = l.length + m.length := fun l m => by simp
                  have y1 : B.length * 8 ≤ 140737488355328 := by omega
                  have y2 : (B.length + A.length) * 8 ≤ 140737488355328 := by omega
                  have y3 : B.length ≤ 9223372036854775807 := by omega
                  have y4 : B.length + A.length ≤ 9223372036854775807 := by omega
                  have htAB : List.take (B.length + A.length) (B.map uc ++ A.map uc) = B.map uc ++ A.map uc := List.take_of_length_le (by simp)
                  have hlt2 : ¬ (i : Int) < j := by omega
                  have hlt3 : (j : Int) < i := by omega
                  repeat (first | refine N.seq ?_ | refine N.blk ?_ | refine W.seq rfl ?_ | refine W.block rfl ?_ | refine W.skip rfl ?_ | refine W.ret rfl ?_ | refine N.nil ?_ | refine N.loop ?_ | refine W.exit rfl ?_ | refine X.seq ?_ | refine X.loop ?_ | refine X.hit ?_ | refine X.pass (by decide) ?_ | refine W.condT rfl (by rfl) ?_ | refine W.condF rfl (by rfl) ?_ | refine W.region tm gr_specs_ok rfl (by conv => lhs; simp [q1, q2, hx, h1, gB, Tk.cells, hA, hB, ni, nj, qi, qi', qj, qj', hgi, hgj, gL, hne, hsum, hws, hO, hset, y1, y2, y3, y4, htAB, hlt2, hlt3, maxLen]) fun _ => ?_ | refine W.regionD tm gr_specs_ok rfl (by conv => lhs; simp [q1, q2, hx, h1, gB, Tk.cells, hA, hB, ni, nj, qi, qi', qj, qj', hgi, hgj, gL, hne, hsum, hws, hO, hset, y1, y2, y3, y4, htAB, hlt2, hlt3, maxLen]) (by conv => lhs; simp) (by kernel_rfl) fun _ => ?_)
                  have hGt : List.take gs.length (G.map gL) = G.map gL := List.take_of_length_le (by simp; omega)
                  have hGm : gs.length ≤ G.length := by omega
                  refine W.frz 9 rfl (by conv => lhs; simp [frqT, frqV, frqVs, frqL, frq1, h1, gB, hGt, hGm]) ?_
                  have m1 : i ≤ G.length := by omega
                  have m2 : min i G.length = i := by omega
                  have m3 : i + 1 ≤ G.length := by omega
                  have wj : IntKind.i64.wrap ((i : Int) + 1) = ((i + 1 : Nat) : Int) := w64 (by omega) (by omega)
                  have n0 : (0 : Int) ≤ (i : Int) + 1 := by omega
                  have m4 : i * 24 ≤ 140737488355328 := by omega
                  have m5 : (i + (G.length - (i + 1))) * 24 ≤ 140737488355328 := by omega
                  have m6 : i ≤ 9223372036854775807 := by omega
                  have m7 : i + (G.length - (i + 1)) ≤ 9223372036854775807 := by omega
                  have f1 : firstRows i (List.take i (G.map gL)) = List.take i (G.map gL) := firstRows_full (by simp; omega)
                  have m8 : (gstep gs t).length = i + (G.length - (i + 1)) := by rw [hgs]; simp; omega
                  repeat (first | refine N.seq ?_ | refine N.blk ?_ | refine W.seq rfl ?_ | refine W.block rfl ?_ | refine W.skip rfl ?_ | refine W.ret rfl ?_ | refine N.nil ?_ | refine N.loop ?_ | refine W.exit rfl ?_ | refine X.seq ?_ | refine X.loop ?_ | refine X.hit ?_ | refine X.pass (by decide) ?_ | refine W.condT rfl (by rfl) ?_ | refine W.condF rfl (by rfl) ?_ | refine W.region tm gr_specs_ok rfl (by conv => lhs; simp [q1, q2, hx, h1, gB, m1, m2, m3, m4, m5, m6, m7, f1, n0, wj, hw, maxLen]) fun _ => ?_ | refine W.regionD tm gr_specs_ok rfl (by conv => lhs; simp [q1, q2, hx, h1, gB, m1, m2, m3, m4, m5, m6, m7, f1, n0, wj, hw, maxLen]) (by conv => lhs; simp) (by kernel_rfl) fun _ => ?_)
                  refine ⟨⟨(k + 1, _, _), hlt, by dsimp only; rw [hst]; exact hfs, ?_⟩, by dsimp only; omega, AS.le_of rfl ⟨by dsimp only; rw [hst, m8]; rfl, rfl, rfl, trivial⟩ (fun _ => rfl)⟩
                  dsimp only
                  rw [hst, hgs]
                  simp [lk_st, gB]
    · have hlt : k < O.length := by omega
      obtain ⟨x, hx⟩ := get_lt hlt
      have q1 : (k : Int) < O.length := by omega
      have q2 : ¬ O.length ≤ k := by omega
      have hw := w64_succ hlt (capX hol)
      have hst : (O.take (k + 1)).map one = (O.take k).map one ++ [one x] := by rw [List.take_add_one, hx]; simp
      have hkl : ((O.take k).map one).length = k := by simp; omega
      generalize (O.take k).map one = A at hst hkl h1
      have hfr : firstRows k (A.map gL) = A.map gL := firstRows_full (by simpa using hkl)
      have c1 : (k + 1) * 24 ≤ 140737488355328 := by omega
      have c2 : k ≤ 9223372036854775806 := by omega
      repeat (first | refine N.seq ?_ | refine N.blk ?_ | refine W.seq rfl ?_ | refine W.block rfl ?_ | refine W.skip rfl ?_ | refine W.ret rfl ?_ | refine N.nil ?_ | refine N.loop ?_ | refine W.exit rfl ?_ | refine X.seq ?_ | refine X.loop ?_ | refine X.hit ?_ | refine X.pass (by decide) ?_ | refine W.condT rfl (by rfl) ?_ | refine W.condF rfl (by rfl) ?_ | refine W.region tm gr_specs_ok rfl (by conv => lhs; simp [q1, q2, hx, uc, hw, h1, gB, hkl, hfr, c1, c2, maxLen]) fun _ => ?_ | refine W.regionD tm gr_specs_ok rfl (by conv => lhs; simp [q1, q2, hx, uc, hw, h1, gB, hkl, hfr, c1, c2, maxLen]) (by conv => lhs; simp) (by kernel_rfl) fun _ => ?_)
      exact ⟨⟨(k + 1, _), hlt, by dsimp only; rw [hst]; simp [lk_st, gB, gL, one, uc]⟩, by dsimp only; omega, AS.le_of rfl ⟨rfl, rfl, rfl, rfl, rfl, rfl, trivial⟩ (fun _ => rfl)⟩
  · have hlt : k < ps.length := by omega
    obtain ⟨x, hx⟩ := get_lt hlt
    have q1 : (k : Int) < ps.length := by omega
    have q2 : ¬ ps.length ≤ k := by omega
    have hw := w64_succ hlt (capX hps)
    have hst := allP_step hx
    have hol : (allP (ps.take k)).length ≤ 400 := by
      have := allP_len (ps.take k)
      simp at this; omega
    have hA := addS_eq (allP (ps.take k)) x hol
    by_cases hc : x = 0 ∨ has (allP (ps.take k)) x = true
    · have hst2 : allP (ps.take (k + 1)) = allP (ps.take k) := by rw [hst]; simp only [add1, if_pos hc]
      rw [if_pos hc] at hA
      generalize allP (ps.take k) = out at h1 hol hst2 hA ⊢
      simp only [uB] at hA
      repeat (first | refine N.seq ?_ | refine N.blk ?_ | refine W.seq rfl ?_ | refine W.block rfl ?_ | refine W.skip rfl ?_ | refine W.ret rfl ?_ | refine N.nil ?_ | refine N.loop ?_ | refine W.exit rfl ?_ | refine X.seq ?_ | refine X.loop ?_ | refine X.hit ?_ | refine X.pass (by decide) ?_ | refine W.condT rfl (by rfl) ?_ | refine W.condF rfl (by rfl) ?_ | refine W.region tm gr_specs_ok rfl (by conv => lhs; simp [q1, q2, hx, uc, hw, h1, uB, hA]) fun _ => ?_ | refine W.regionD tm gr_specs_ok rfl (by conv => lhs; simp [q1, q2, hx, uc, hw, h1, uB, hA]) (by conv => lhs; simp) (by kernel_rfl) fun _ => ?_)
      exact ⟨⟨(k + 1, g, _), hlt, by dsimp only; rw [hst2]; simp [lk_st, uB], by simp [lk_st, h2]⟩, by dsimp only; omega, AS.le_of rfl ⟨rfl, rfl, rfl, by dsimp only; rw [hst2]; rfl, rfl, trivial⟩ (fun _ => rfl)⟩
    · have hst2 : allP (ps.take (k + 1)) = allP (ps.take k) ++ [x] := by rw [hst]; simp only [add1, if_neg hc]
      rw [if_neg hc] at hA
      generalize allP (ps.take k) = out at h1 hol hst2 hA ⊢
      simp only [uB] at hA
      repeat (first | refine N.seq ?_ | refine N.blk ?_ | refine W.seq rfl ?_ | refine W.block rfl ?_ | refine W.skip rfl ?_ | refine W.ret rfl ?_ | refine N.nil ?_ | refine N.loop ?_ | refine W.exit rfl ?_ | refine X.seq ?_ | refine X.loop ?_ | refine X.hit ?_ | refine X.pass (by decide) ?_ | refine W.condT rfl (by rfl) ?_ | refine W.condF rfl (by rfl) ?_ | refine W.region tm gr_specs_ok rfl (by conv => lhs; simp [q1, q2, hx, uc, hw, h1, uB, hA]) fun _ => ?_ | refine W.regionD tm gr_specs_ok rfl (by conv => lhs; simp [q1, q2, hx, uc, hw, h1, uB, hA]) (by conv => lhs; simp) (by kernel_rfl) fun _ => ?_)
      exact ⟨⟨(k + 1, g + 1, _), hlt, by dsimp only; rw [hst2]; simp [lk_st, uB, uc], by simp [lk_st, h2]⟩, by dsimp only; omega, AS.le_of rfl ⟨rfl, rfl, rfl, by dsimp only; rw [hst2]; simp [lk], rfl, trivial⟩ (fun _ => rfl)⟩
end Go.Abs.Po
namespace Go.Abs.Po
open Go Go.Proofs Go.Abs
set_option maxRecDepth 100000
set_option maxHeartbeats 4000000
set_option linter.unusedSimpArgs false
set_option linter.unusedVariables false
def gG (L ps : List Int) : Nat → Nat → List Tk → List Tk
  | 0, _, T => T
  | k + 1, p, T => if ps.length = 0 then T else gG L ps k (nk L (nk L p)) (note T ((ps[(nx L p ps.length).toNat]?).getD 0) ((ps[(nx L (nk L p) ps.length).toNat]?).getD 0))
def idsOf' (pl : List Pl) : List Int := pl.map (·.p)
def gRes (L : List Int) (pl : List Pl) : List (List Int) := grps (gG L (idsOf' pl) (nx L 0 8).toNat (nk L 0) []) 1 (idsOf' pl)
theorem gRes_few (L : List Int) (pl : List Pl) : Few pl.length (gRes L pl) := by
  have := grps_few (gG L (idsOf' pl) (nx L 0 8).toNat (nk L 0) []) 1 (idsOf' pl)
  simpa [gRes, idsOf'] using this
noncomputable def gs_specs : NL Spec := [(25, ⟨3, newS⟩), (27, ⟨3, nextS⟩), (28, ⟨1, noterS⟩), (29, ⟨1, grpS⟩)]
theorem gs_specs_ok : ∀ p ∈ gs_specs, FnC Try.prog p.1 p.2.fn := by
  simp only [gs_specs, List.mem_cons, List.not_mem_nil, or_false]
  rintro p (rfl | rfl | rfl | rfl)
  · exact new_ok
  · exact next_ok
  · exact noter_ok
  · exact grp_ok
attribute [local simp] runL stepA execA_eq skipA run_ret run_fail run_get run_put run_asm num lk st lk_st putA AS.ev ofValue ofFlat mkv splice fieldAddrA buildA fillA runF gdst pickA unOpA extractA resVs resV pack frzT inlT inlV frzV frzVs frzL frz1 newId AV.cellsOf AV.flat AV.flat2 specOf loadA_runR capA copyA copyTo srcA sliceCA slice3A appendZA extA AV.place lenCA clearA clearTo expG expB3 List.zipWith renL fF handB renB AV.ren backF backL idsOf freshIds refsL refsB AV.refs List.range List.range.loop placesA sliceRows rowsOf convertA sliceArrA sliceA bndA nilCheckA arrayAtA mmA lookupA keyOf keyOK findA keyEqA foundA makeMapA mapUpdateA appendA rowsA indexA partA fieldA retE2 frqT frqV frqVs frqL frq1 reachE blkRefs outE nodupE firstE seqO expB2 expF instA take_len_map gs_specs newS_eq List.findIdx?_cons List.findIdx?_nil
structure LV where
  L : List Int
  hL : L.length ≤ maxLen
  v : Vt
def encLV (x : LV) : List AV := [.list 1 (x.L.map ic), x.v.av]
theorem encLV_inj {β : Type} {f : LV → β} : ∀ x y, encLV x = encLV y → f x = f y := fun x y h => by
  obtain ⟨L, hL, v⟩ := x
  obtain ⟨L', hL', v'⟩ := y
  simp only [encLV, List.cons.injEq, AV.list.injEq, true_and, and_true] at h
  have h1 := map_inj ic_inj h.1
  have h2 := Vt.inj _ _ h.2
  subst h1
  subst h2
  rfl
noncomputable def groupsS : SpecFn := mkS encLV fun x => (.list 1 ((gRes x.L x.v.pl).map gL), [])
theorem groupsS_eq (L : List Int) (hL : L.length ≤ maxLen) (view : Int) (nodes : List Int) (P : AV) (pl : List Pl) (hP : IsP P pl) (hn : nodes.length ≤ 8) (hl : pl.length ≤ 200) :
    groupsS [.list 1 (L.map ic), .agg [.int .i64 view, .list 1 (nodes.map ic), .nils, P, .nils, .nils]] [] = some (.list 1 ((gRes L pl).map gL), []) :=
  mkS_eq (enc := encLV) encLV_inj ⟨L, hL, ⟨view, nodes, P, pl, hP, hn, hl⟩⟩
theorem le_snd {n t u : Nat} {x y z : AV} {r : NL AV} {H : NL ABlk} (h : AV.weaker x y) (hr : tmpsLe r r) (hz : t ≠ u) (hr' : lk r t = none) (hr2 : lk r u = none) : AS.le ⟨n, (u, z) :: (t, y) :: [], H⟩ ⟨n, (u, z) :: (t, x) :: [], H⟩ :=
  AS.le_of' rfl ⟨⟨_, by simp [lk], AV.weaker_refl _⟩, ⟨_, by simp [lk, hz.symm], h⟩, trivial⟩ (fun _ => rfl)
theorem groups_ok : FnC Try.prog 9 groupsS := by
  refine FnC.walk 9 (fn := Try.f9) Try.func9 rfl (by kernel_rfl) fun x => ?_
  obtain ⟨L, hL, ⟨view, nodes, P, pl, hP, hn, hl⟩⟩ := x
  dsimp only
  refine W.weak (σ' := ⟨56, [(0, .list 1 (L.map ic)), (1, .agg (vA view nodes (.list 2 (pl.map Pl.cells))))], []⟩) (AS.le_of' rfl ⟨⟨_, rfl, AV.weaker_refl _⟩, ⟨_, rfl, vA_weak hP.weak⟩, trivial⟩ (fun _ => rfl)) ?_
  clear hP P
  repeat (first | refine N.seq ?_ | refine N.blk ?_ | refine W.seq rfl ?_ | refine W.block rfl ?_ | refine W.skip rfl ?_ | refine W.ret rfl ?_ | refine N.nil ?_ | refine N.loop ?_ | refine W.exit rfl ?_ | refine X.seq ?_ | refine X.loop ?_ | refine X.hit ?_ | refine X.pass (by decide) ?_ | refine W.condT rfl (by rfl) ?_ | refine W.condF rfl (by rfl) ?_ | refine W.region tm gs_specs_ok rfl (by conv => lhs; simp [vA]) fun _ => ?_ | refine W.regionD tm gs_specs_ok rfl (by conv => lhs; simp [vA]) (by conv => lhs; simp) (by kernel_rfl) fun _ => ?_)
  refine W.phantom (t := 7) 2000 55 1 true rfl (by rfl) (by decide) ?_
  refine W.loop rfl (ι := { q : Nat × NL ABlk // q.1 ≤ pl.length ∧ lk q.2 208 = some (dk1 L 0) ∧ lk q.2 2000 = some (uB q.1 (idsOf' (pl.take q.1))) })
    (fun q => ⟨56, [(5, .ptr 208 1 0 0), (6, .nils), (7, .sl 2000 q.1.1 0 q.1.1), (14, .list 2 (pl.map Pl.cells)), (15, .int .i64 pl.length), (16, .int .i64 (q.1.1 : Nat))], q.1.2⟩) (fun q => pl.length - q.1.1)
    ⟨(0, _), by simp, by rfl, by rfl⟩ (AS.le_of rfl ⟨rfl, rfl, rfl, rfl, rfl, rfl, trivial⟩ (fun _ => rfl)) ?_
  rintro ⟨⟨k, h⟩, hk, h1, h2⟩
  dsimp only at hk h1 h2 ⊢
  by_cases hk2 : k = pl.length
  · subst hk2
    rw [List.take_length] at h2
    have n0 := nextS_eq L 0 8 hL (Nat.zero_le _) (by omega) (by omega)
    simp only [Int.natCast_zero, Int.ofNat_zero] at n0
    have hgr : gRes L pl = grps (gG L (idsOf' pl) (nx L 0 8).toNat (nk L 0) []) 1 (idsOf' pl) := rfl
    have hpl : (idsOf' pl).length = pl.length := by simp [idsOf']
    obtain ⟨m, hm⟩ : ∃ m : Nat, nx L 0 8 = m := ⟨(nx L 0 8).toNat, by have := nx_nonneg L 0 (n := 8) (by omega); omega⟩
    have hm8 := nx_lt L 0 (n := 8) (by omega)
    rw [hm] at n0 hm8 hgr
    simp only [Int.toNat_natCast] at hgr
    have k1 : nk L 0 ≤ L.length := nk_le (Nat.zero_le _)
    repeat (first | refine N.seq ?_ | refine N.blk ?_ | refine W.seq rfl ?_ | refine W.block rfl ?_ | refine W.skip rfl ?_ | refine W.ret rfl ?_ | refine N.nil ?_ | refine N.loop ?_ | refine W.exit rfl ?_ | refine X.seq ?_ | refine X.loop ?_ | refine X.hit ?_ | refine X.pass (by decide) ?_ | refine W.condT rfl (by rfl) ?_ | refine W.condF rfl (by rfl) ?_ | refine W.region tm gs_specs_ok rfl (by conv => lhs; simp [h1, h2, dk1, n0]) fun _ => ?_ | refine W.regionD tm gs_specs_ok rfl (by conv => lhs; simp [h1, h2, dk1, n0]) (by conv => lhs; simp) (by kernel_rfl) fun _ => ?_)
    rw [hgr, ← hpl]
    rw [← hpl] at h2 hl
    generalize idsOf' pl = ps at h2 hl ⊢
    refine W.loop rfl (ι := { q : Nat × Nat × List Tk × NL ABlk // q.1 ≤ 8 ∧ q.2.1 ≤ L.length ∧ q.2.2.1.length ≤ 200 ∧ gG L ps m (nk L 0) [] = gG L ps q.1 q.2.1 q.2.2.1 ∧ lk q.2.2.2 208 = some (dk1 L q.2.1) ∧ lk q.2.2.2 2000 = some (uB ps.length ps) })
      (fun q => ⟨56, [(5, .ptr 208 1 0 0), (6, .list 3 (q.1.2.2.1.map Tk.cells)), (7, .sl 2000 ps.length 0 ps.length), (10, .int .i64 (q.1.1 : Nat))], q.1.2.2.2⟩) (fun q => q.1.1)
      ⟨(m, nk L 0, [], _), by dsimp only; omega, k1, by simp, rfl, by simp [lk_st, dk1], by simp [lk_st, h2]⟩ (AS.le_of' rfl ⟨⟨_, rfl, AV.weaker_refl _⟩, ⟨_, rfl, AV.weaker_nils 3⟩, ⟨_, rfl, AV.weaker_refl _⟩, ⟨_, rfl, AV.weaker_refl _⟩, trivial⟩ (fun _ => rfl)) ?_
    clear h1 h2 n0 h
    rintro ⟨⟨k, p, T, h⟩, hk, hp, hT, hg, h1, h2⟩
    dsimp only at hk hp hT hg h1 h2 ⊢
    have hps0 : ps.length ≤ 200 := hl
    have tk : List.take ps.length (ps.map uc) = ps.map uc := List.take_of_length_le (by simp)
    match k, hk, hg with
    | 0, hk, hg =>
      simp only [gG] at hg
      have hG := grpS_eq T 1 ps hT hps0
      repeat (first | refine N.seq ?_ | refine N.blk ?_ | refine W.seq rfl ?_ | refine W.block rfl ?_ | refine W.skip rfl ?_ | refine W.ret rfl ?_ | refine N.nil ?_ | refine N.loop ?_ | refine W.exit rfl ?_ | refine X.seq ?_ | refine X.loop ?_ | refine X.hit ?_ | refine X.pass (by decide) ?_ | refine W.condT rfl (by rfl) ?_ | refine W.condF rfl (by rfl) ?_ | refine W.region tm gs_specs_ok rfl (by conv => lhs; simp [h1, h2, uB, hG, tk]) fun _ => ?_ | refine W.regionD tm gs_specs_ok rfl (by conv => lhs; simp [h1, h2, uB, hG, tk]) (by conv => lhs; simp) (by kernel_rfl) fun _ => ?_)
      rw [hg]
      first | exact Ret.dataR rfl (by conv => lhs; simp) (by conv => lhs; simp) (by first | rfl | simp [inlT, inlV]) | fail "no return here"
    | k + 1, hk, hg =>
      have q0 : (0 : Int) < (k : Int) + 1 := by omega
      by_cases hps : ps.length = 0
      · simp only [gG, if_pos hps] at hg
        have hG := grpS_eq T 1 ps hT hps0
        have q1 : ¬ (0 : Int) < ps.length := by omega
        have q2 : ¬ 0 < ps.length := by omega
        repeat (first | refine N.seq ?_ | refine N.blk ?_ | refine W.seq rfl ?_ | refine W.block rfl ?_ | refine W.skip rfl ?_ | refine W.ret rfl ?_ | refine N.nil ?_ | refine N.loop ?_ | refine W.exit rfl ?_ | refine X.seq ?_ | refine X.loop ?_ | refine X.hit ?_ | refine X.pass (by decide) ?_ | refine W.condT rfl (by rfl) ?_ | refine W.condF rfl (by rfl) ?_ | refine W.region tm gs_specs_ok rfl (by conv => lhs; simp [h1, h2, uB, hG, tk, q0, q1, q2]) fun _ => ?_ | refine W.regionD tm gs_specs_ok rfl (by conv => lhs; simp [h1, h2, uB, hG, tk, q0, q1, q2]) (by conv => lhs; simp) (by kernel_rfl) fun _ => ?_)
        rw [hg]
        first | exact Ret.dataR rfl (by conv => lhs; simp) (by conv => lhs; simp) (by first | rfl | simp [inlT, inlV]) | fail "no return here"
      · simp only [gG, if_neg hps] at hg
        have p1 := nk_le hp
        have n1 := nextS_eq L p ps.length hL hp (by omega) (by omega)
        have n2 := nextS_eq L (nk L p) ps.length hL p1 (by omega) (by omega)
        have a0 := nx_nonneg L p (n := ps.length) (by omega)
        have a1 := nx_lt L p (n := ps.length) (by omega)
        have b0 := nx_nonneg L (nk L p) (n := ps.length) (by omega)
        have b1 := nx_lt L (nk L p) (n := ps.length) (by omega)
        obtain ⟨i, hi⟩ : ∃ i : Nat, nx L p ps.length = i := ⟨_, (Int.toNat_of_nonneg a0).symm⟩
        obtain ⟨j, hj⟩ : ∃ j : Nat, nx L (nk L p) ps.length = j := ⟨_, (Int.toNat_of_nonneg b0).symm⟩
        rw [hi] at n1 a1 hg
        rw [hj] at n2 b1 hg
        have hil : i < ps.length := by omega
        have hjl : j < ps.length := by omega
        obtain ⟨x, hx⟩ := get_lt hil
        obtain ⟨y, hy⟩ := get_lt hjl
        simp only [Int.toNat_natCast, hx, hy, Option.getD_some] at hg
        have qi' : ¬ ps.length ≤ i := by omega
        have qj' : ¬ ps.length ≤ j := by omega
        have q1 : (0 : Int) < ps.length := by omega
        have q2 : 0 < ps.length := by omega
        have w3 : IntKind.i64.wrap ((k : Int) + 1 - 1) = (k : Int) := by rw [show (k : Int) + 1 - 1 = k by omega]; exact w64 (by omega) (by omega)
        have w4 : IntKind.i64.wrap (k : Int) = (k : Int) := w64 (by omega) (by omega)
        have hN : noterS [.list 3 (T.map Tk.cells), .int .u64 x, .int .u64 y] [] = some (.list 3 ((note T x y).map Tk.cells), []) := mkS_eq (enc := encNr) encNr_inj (⟨T, hT⟩, x, y)
        repeat (first | refine N.seq ?_ | refine N.blk ?_ | refine W.seq rfl ?_ | refine W.block rfl ?_ | refine W.skip rfl ?_ | refine W.ret rfl ?_ | refine N.nil ?_ | refine N.loop ?_ | refine W.exit rfl ?_ | refine X.seq ?_ | refine X.loop ?_ | refine X.hit ?_ | refine X.pass (by decide) ?_ | refine W.condT rfl (by rfl) ?_ | refine W.condF rfl (by rfl) ?_ | refine W.region tm gs_specs_ok rfl (by conv => lhs; simp [h1, h2, uB, dk1, q0, q1, q2, n1, n2, a1, b1, qi', qj', hx, hy, hN, w3, w4, uc]) fun _ => ?_ | refine W.regionD tm gs_specs_ok rfl (by conv => lhs; simp [h1, h2, uB, dk1, q0, q1, q2, n1, n2, a1, b1, qi', qj', hx, hy, hN, w3, w4, uc]) (by conv => lhs; simp) (by kernel_rfl) fun _ => ?_)
        exact ⟨⟨(k, nk L (nk L p), note T x y, _), by dsimp only; omega, nk_le p1, note_len T x y hT, hg, by simp [lk_st, dk1], by simp [lk_st, h2, uB, uc]⟩, by dsimp only; omega, AS.le_of rfl ⟨rfl, rfl, rfl, rfl, trivial⟩ (fun _ => rfl)⟩
  · have hlt : k < pl.length := by omega
    obtain ⟨x, hx⟩ := get_lt hlt
    have q1 : (k : Int) < pl.length := by omega
    have q2 : ¬ pl.length ≤ k := by omega
    have hw := w64_succ hlt (capX hl)
    have hst : idsOf' (pl.take (k + 1)) = idsOf' (pl.take k) ++ [x.p] := by rw [idsOf', List.take_add_one, hx]; simp [idsOf']
    have hkl : (idsOf' (pl.take k)).length = k := by simp [idsOf']; omega
    generalize idsOf' (pl.take k) = A at hst hkl h2
    have hfr : firstRows k (A.map uc) = A.map uc := firstRows_full (by simpa using hkl)
    have c1 : (k + 1) * 8 ≤ 140737488355328 := by omega
    have c2 : k ≤ 9223372036854775806 := by omega
    repeat (first | refine N.seq ?_ | refine N.blk ?_ | refine W.seq rfl ?_ | refine W.block rfl ?_ | refine W.skip rfl ?_ | refine W.ret rfl ?_ | refine N.nil ?_ | refine N.loop ?_ | refine W.exit rfl ?_ | refine X.seq ?_ | refine X.loop ?_ | refine X.hit ?_ | refine X.pass (by decide) ?_ | refine W.condT rfl (by rfl) ?_ | refine W.condF rfl (by rfl) ?_ | refine W.region tm gs_specs_ok rfl (by conv => lhs; simp [q1, q2, hx, hw, h1, h2, uB, hkl, hfr, c1, c2, maxLen, Pl.cells]) fun _ => ?_ | refine W.regionD tm gs_specs_ok rfl (by conv => lhs; simp [q1, q2, hx, hw, h1, h2, uB, hkl, hfr, c1, c2, maxLen, Pl.cells]) (by conv => lhs; simp) (by kernel_rfl) fun _ => ?_)
    exact ⟨⟨(k + 1, _), hlt, by simp [lk_st, h1, dk1], by dsimp only; rw [hst]; simp [lk_st, uB, uc]⟩, by dsimp only; omega, AS.le_of rfl ⟨rfl, rfl, rfl, rfl, rfl, rfl, trivial⟩ (fun _ => rfl)⟩
end Go.Abs.Po
namespace Go.Abs.Po
open Go Go.Proofs Go.Abs
set_option maxRecDepth 100000
set_option maxHeartbeats 4000000
set_option linter.unusedSimpArgs false
set_option linter.unusedVariables false
attribute [local simp] runL stepA execA_eq skipA run_ret run_fail run_get run_put run_asm num lk st lk_st putA AS.ev ofValue ofFlat mkv splice fieldAddrA buildA fillA runF gdst pickA unOpA extractA resVs resV pack frzT inlT inlV frzV frzVs frzL frz1 newId AV.cellsOf AV.flat AV.flat2 specOf loadA_runR capA copyA copyTo srcA sliceCA slice3A appendZA extA AV.place lenCA clearA clearTo expG expB3 List.zipWith renL fF handB renB AV.ren backF backL idsOf freshIds refsL refsB AV.refs List.range List.range.loop placesA sliceRows rowsOf convertA sliceArrA sliceA bndA nilCheckA arrayAtA mmA lookupA keyOf keyOK findA keyEqA foundA makeMapA mapUpdateA appendA rowsA indexA partA fieldA retE2 frqT frqV frqVs frqL frq1 reachE blkRefs outE nodupE firstE seqO expB2 expF instA take_len_map List.findIdx?_cons List.findIdx?_nil
noncomputable def prS : SpecFn := mkS (fun x : Pl => [.agg x.cells]) fun x => (.int .u64 x.p, [])
theorem prS_eq (x : Pl) : prS [.agg [.int .u64 x.p, .int .i64 x.n]] [] = some (.int .u64 x.p, []) := mkS_eq (enc := fun x : Pl => [.agg x.cells]) (fun x y h => by
  simp only [List.cons.injEq, AV.agg.injEq, and_true] at h
  rw [Pl.inj x y h]) x
theorem pr_ok : FnC Try.prog 57 prS := by
  refine FnC.walk 57 (fn := Try.f57) Try.func57 rfl (by kernel_rfl) fun x => ?_
  change W _ _ _ _ ⟨5, [(0, .agg x.cells)], []⟩
  repeat (first | refine N.seq ?_ | refine N.blk ?_ | refine W.seq rfl ?_ | refine W.block rfl ?_ | refine W.skip rfl ?_ | refine W.ret rfl ?_ | refine N.nil ?_ | refine N.loop ?_ | refine W.exit rfl ?_ | refine X.seq ?_ | refine X.loop ?_ | refine X.hit ?_ | refine X.pass (by decide) ?_ | refine W.condT rfl (by rfl) ?_ | refine W.condF rfl (by rfl) ?_ | refine W.region tm no_specs rfl (by conv => lhs; simp [Pl.cells]) fun _ => ?_ | refine W.regionD tm no_specs rfl (by conv => lhs; simp [Pl.cells]) (by conv => lhs; simp) (by kernel_rfl) fun _ => ?_)
  first | exact Ret.dataR rfl (by conv => lhs; simp) (by conv => lhs; simp) (by first | rfl | simp [inlT, inlV]) | fail "no return here"
/-! ### The closures -/
def fnB : ABlk := { gen := 0, kind := 2, elem := 119, size := 1, inl := false, rows := [[.fn (.func 57) [] []]] }
def cB (k : Int) : ABlk := { gen := 0, kind := 2, elem := 55, size := 1, inl := false, rows := [[.int .u64 k]] }
theorem cB_inj {x y : Int} (h : cB x = cB y) : x = y := by
  simpa [cB] using h
def pk (g : Bool) (k : Int) (x : Pl) : Bool := if g then x.p == k else decide (k < x.p)
def encC2 (x : Pl × Int) : List AV × List ABlk := ([.agg x.1.cells, .ptr 0 0 0 0, .ptr 1 0 0 0], [fnB, cB x.2])
theorem encC2_inj {β : Type} {f : Pl × Int → β} : ∀ x y, encC2 x = encC2 y → f x = f y := fun x y h => by
  simp only [encC2, Prod.mk.injEq, List.cons.injEq, AV.agg.injEq, true_and, and_true] at h
  rw [Prod.ext (Pl.inj _ _ h.1) (cB_inj h.2)]
noncomputable def c2S (g : Bool) : SpecFn := mkS2 encC2 fun x => (.bool (pk g x.2 x.1), [fnB, cB x.2])
theorem c2S_eq (g : Bool) (x : Pl) (k : Int) : c2S g [.agg [.int .u64 x.p, .int .i64 x.n], .ptr 0 0 0 0, .ptr 1 0 0 0] [{ gen := 0, kind := 2, elem := 119, size := 1, inl := false, rows := [[.fn (.func 57) [] []]] }, { gen := 0, kind := 2, elem := 55, size := 1, inl := false, rows := [[.int .u64 k]] }] =
    some (.bool (pk g k x), [{ gen := 0, kind := 2, elem := 119, size := 1, inl := false, rows := [[.fn (.func 57) [] []]] }, { gen := 0, kind := 2, elem := 55, size := 1, inl := false, rows := [[.int .u64 k]] }]) := mkS2_eq (enc := encC2) encC2_inj (x, k)
noncomputable def cl_specs : NL Spec := [(57, ⟨0, prS⟩)]
theorem cl_specs_ok : ∀ p ∈ cl_specs, FnC Try.prog p.1 p.2.fn := by
  simp only [cl_specs, List.mem_cons, List.not_mem_nil, or_false]
  rintro p rfl
  exact pr_ok
attribute [local simp] cl_specs prS_eq
theorem c73_ok : FnC Try.prog 73 (c2S true) := by
  refine FnC.walkB 73 (fn := Try.f73) Try.func73 rfl (by kernel_rfl) (fun x b hb => by simp [encC2] at hb; rcases hb with rfl | rfl <;> rfl) fun x => ?_
  obtain ⟨x, k⟩ := x
  change W _ (RetB _ _ 2 _ _) _ _ ⟨10, [(0, .agg x.cells), (1, .ptr 0 0 0 0), (2, .ptr 1 0 0 0)], [(0, fnB), (1, cB k)]⟩
  repeat (first | refine N.seq ?_ | refine N.blk ?_ | refine W.seq rfl ?_ | refine W.block rfl ?_ | refine W.skip rfl ?_ | refine W.ret rfl ?_ | refine N.nil ?_ | refine N.loop ?_ | refine W.exit rfl ?_ | refine X.seq ?_ | refine X.loop ?_ | refine X.hit ?_ | refine X.pass (by decide) ?_ | refine W.condT rfl (by rfl) ?_ | refine W.condF rfl (by rfl) ?_ | refine W.region tm cl_specs_ok rfl (by conv => lhs; simp [fnB, cB, Pl.cells]) fun _ => ?_ | refine W.regionD tm cl_specs_ok rfl (by conv => lhs; simp [fnB, cB, Pl.cells]) (by conv => lhs; simp) (by kernel_rfl) fun _ => ?_)
  simp only [pk, fnB, cB, if_true]
  first | exact retE2_ok false (by conv => lhs; simp [retE2, frqT, frqV, frqVs, frqL, frq1, reachE, blkRefs, outE, nodupE, firstE, seqO, expB2, expF, refsB, refsL, AV.refs, AV.ren, renL, renB, List.range, List.range.loop, resVs, resV, pack]) | fail "no return here"
theorem c74_ok : FnC Try.prog 74 (c2S false) := by
  refine FnC.walkB 74 (fn := Try.f74) Try.func74 rfl (by kernel_rfl) (fun x b hb => by simp [encC2] at hb; rcases hb with rfl | rfl <;> rfl) fun x => ?_
  obtain ⟨x, k⟩ := x
  change W _ (RetB _ _ 2 _ _) _ _ ⟨10, [(0, .agg x.cells), (1, .ptr 0 0 0 0), (2, .ptr 1 0 0 0)], [(0, fnB), (1, cB k)]⟩
  repeat (first | refine N.seq ?_ | refine N.blk ?_ | refine W.seq rfl ?_ | refine W.block rfl ?_ | refine W.skip rfl ?_ | refine W.ret rfl ?_ | refine N.nil ?_ | refine N.loop ?_ | refine W.exit rfl ?_ | refine X.seq ?_ | refine X.loop ?_ | refine X.hit ?_ | refine X.pass (by decide) ?_ | refine W.condT rfl (by rfl) ?_ | refine W.condF rfl (by rfl) ?_ | refine W.region tm cl_specs_ok rfl (by conv => lhs; simp [fnB, cB, Pl.cells]) fun _ => ?_ | refine W.regionD tm cl_specs_ok rfl (by conv => lhs; simp [fnB, cB, Pl.cells]) (by conv => lhs; simp) (by kernel_rfl) fun _ => ?_)
  simp only [pk, fnB, cB, Bool.false_eq_true, if_false]
  first | exact retE2_ok false (by conv => lhs; simp [retE2, frqT, frqV, frqVs, frqL, frq1, reachE, blkRefs, outE, nodupE, firstE, seqO, expB2, expF, refsB, refsL, AV.refs, AV.ren, renL, renB, List.range, List.range.loop, resVs, resV, pack]) | fail "no return here"
def encC1 (x : Pl × Int) : List AV × List ABlk := ([.agg x.1.cells, .ptr 0 0 0 0], [cB x.2])
theorem encC1_inj {β : Type} {f : Pl × Int → β} : ∀ x y, encC1 x = encC1 y → f x = f y := fun x y h => by
  simp only [encC1, Prod.mk.injEq, List.cons.injEq, AV.agg.injEq, true_and, and_true] at h
  rw [Prod.ext (Pl.inj _ _ h.1) (cB_inj h.2)]
noncomputable def c1S : SpecFn := mkS2 encC1 fun x => (.bool (pk true x.2 x.1), [cB x.2])
theorem c1S_eq (x : Pl) (k : Int) : c1S [.agg [.int .u64 x.p, .int .i64 x.n], .ptr 0 0 0 0] [{ gen := 0, kind := 2, elem := 55, size := 1, inl := false, rows := [[.int .u64 k]] }] =
    some (.bool (pk true k x), [{ gen := 0, kind := 2, elem := 55, size := 1, inl := false, rows := [[.int .u64 k]] }]) := mkS2_eq (enc := encC1) encC1_inj (x, k)
theorem c83_ok : FnC Try.prog 83 c1S := by
  refine FnC.walkB 83 (fn := Try.f83) Try.func83 rfl (by kernel_rfl) (fun x b hb => by simp [encC1] at hb; rw [hb]; rfl) fun x => ?_
  obtain ⟨x, k⟩ := x
  change W _ (RetB _ _ 1 _ _) _ _ ⟨8, [(0, .agg x.cells), (1, .ptr 0 0 0 0)], [(0, cB k)]⟩
  repeat (first | refine N.seq ?_ | refine N.blk ?_ | refine W.seq rfl ?_ | refine W.block rfl ?_ | refine W.skip rfl ?_ | refine W.ret rfl ?_ | refine N.nil ?_ | refine N.loop ?_ | refine W.exit rfl ?_ | refine X.seq ?_ | refine X.loop ?_ | refine X.hit ?_ | refine X.pass (by decide) ?_ | refine W.condT rfl (by rfl) ?_ | refine W.condF rfl (by rfl) ?_ | refine W.region tm cl_specs_ok rfl (by conv => lhs; simp [cB, Pl.cells]) fun _ => ?_ | refine W.regionD tm cl_specs_ok rfl (by conv => lhs; simp [cB, Pl.cells]) (by conv => lhs; simp) (by kernel_rfl) fun _ => ?_)
  simp only [pk, cB, if_true]
  first | exact retE2_ok false (by conv => lhs; simp [retE2, frqT, frqV, frqVs, frqL, frq1, reachE, blkRefs, outE, nodupE, firstE, seqO, expB2, expF, refsB, refsL, AV.refs, AV.ren, renL, renB, List.range, List.range.loop, resVs, resV, pack]) | fail "no return here"
/-! ### Finding -/
def fidx {α : Type} (p : α → Bool) (l : List α) : Int := match l.findIdx? p with
  | some i => (i : Nat)
  | none => -1
theorem fidx_hit {α : Type} {p : α → Bool} {l : List α} {k : Nat} {x : α} (h : ∀ i y, i < k → l[i]? = some y → p y = false) (hx : l[k]? = some x) (hp : p x = true) : fidx p l = (k : Nat) := by
  have hk := (List.getElem?_eq_some_iff.1 hx).1
  have : l.findIdx? p = some k := by
    rw [List.findIdx?_eq_some_iff_getElem]
    refine ⟨hk, ?_, fun j hj => ?_⟩
    · rw [List.getElem?_eq_getElem hk] at hx; cases hx; exact hp
    · have := h j _ hj (List.getElem?_eq_getElem (by omega)); simp [this]
  simp [fidx, this]
theorem fidx_none {α : Type} {p : α → Bool} {l : List α} (h : ∀ i y, i < l.length → l[i]? = some y → p y = false) : fidx p l = -1 := by
  have : l.findIdx? p = none := by
    rw [List.findIdx?_eq_none_iff]
    intro x hx
    obtain ⟨i, hi, rfl⟩ := List.mem_iff_getElem.1 hx
    exact h i _ hi (List.getElem?_eq_getElem hi)
  simp [fidx, this]
theorem fidx_cases {α : Type} (p : α → Bool) (l : List α) : (fidx p l = -1 ∧ ∀ (i : Nat) y, l[i]? = some y → p y = false) ∨ ∃ (k : Nat) (x : α), fidx p l = k ∧ l[k]? = some x ∧ p x = true ∧ ∀ i y, i < k → l[i]? = some y → p y = false := by
  cases h : l.findIdx? p with
  | none =>
    refine .inl ⟨by simp [fidx, h], fun i y hy => ?_⟩
    rw [List.findIdx?_eq_none_iff] at h
    exact h y (List.mem_of_getElem? hy)
  | some k =>
    rw [List.findIdx?_eq_some_iff_getElem] at h
    obtain ⟨hk, h1, h2⟩ := h
    refine .inr ⟨k, l[k], ?_, List.getElem?_eq_getElem hk, h1, fun i y hi hy => ?_⟩
    · refine fidx_hit (fun i y hi hy => ?_) (List.getElem?_eq_getElem hk) h1
      have := h2 i hi
      obtain ⟨hil, rfl⟩ := List.getElem?_eq_some_iff.1 hy
      simpa using this
    · have := h2 i hi
      obtain ⟨hil, rfl⟩ := List.getElem?_eq_some_iff.1 hy
      simpa using this
def pB (l : List Pl) : ABlk := { gen := 0, kind := 2, elem := 57, size := 2, inl := true, rows := l.map Pl.cells }
theorem pB_inj {x y : List Pl} (h : pB x = pB y) : x = y := by
  simp only [pB, ABlk.mk.injEq, true_and] at h
  exact map_inj Pl.inj h
def PL := { l : List Pl // l.length ≤ 200 }
inductive Ix
  | a (g : Bool) (l : PL) (k : Int)
  | b (g : Bool) (l : PL) (k : Int)
  | c (l : PL) (k : Int)
def fc (g : Bool) : Nat := if g then 73 else 74
def encIx : Ix → List AV × List ABlk
  | .a g l k => ([.list 2 (l.1.map Pl.cells), .fn (.func (fc g)) [] [.ptr 0 0 0 0, .ptr 1 0 0 0]], [fnB, cB k])
  | .b g l k => ([.sl 0 0 0 l.1.length, .fn (.func (fc g)) [] [.ptr 1 0 0 0, .ptr 2 0 0 0]], [pB l.1, fnB, cB k])
  | .c l k => ([.sl 0 0 0 l.1.length, .fn (.func 83) [] [.ptr 1 0 0 0]], [pB l.1, cB k])
def resIx : Ix → AV × List ABlk
  | .a g l k => (.int .i64 (fidx (pk g k) l.1), [fnB, cB k])
  | .b g l k => (.int .i64 (fidx (pk g k) l.1), [pB l.1, fnB, cB k])
  | .c l k => (.int .i64 (fidx (pk true k) l.1), [pB l.1, cB k])
theorem fc_inj {g g' : Bool} (h : fc g = fc g') : g = g' := by cases g <;> cases g' <;> simp [fc] at h <;> rfl
theorem encIx_inj : ∀ x y, encIx x = encIx y → resIx x = resIx y := fun x y h => by
  cases x with
  | a g l k => cases y with
    | a g' l' k' =>
      simp only [encIx, Prod.mk.injEq, List.cons.injEq, AV.fn.injEq, AV.list.injEq, Fn.func.injEq, and_true, true_and] at h
      obtain ⟨⟨h1, h2⟩, h3⟩ := h
      rw [fc_inj h2, Subtype.ext (map_inj Pl.inj h1), cB_inj h3]
    | b g' l' k' => simp [encIx] at h
    | c l' k' => simp [encIx] at h
  | b g l k => cases y with
    | a g' l' k' => simp [encIx] at h
    | b g' l' k' =>
      simp only [encIx, Prod.mk.injEq, List.cons.injEq, AV.fn.injEq, Fn.func.injEq, and_true, true_and] at h
      obtain ⟨⟨_, h2⟩, h1, h3⟩ := h
      rw [fc_inj h2, Subtype.ext (pB_inj h1), cB_inj h3]
    | c l' k' => simp [encIx] at h
  | c l k => cases y with
    | a g' l' k' => simp [encIx] at h
    | b g' l' k' => simp [encIx] at h
    | c l' k' =>
      simp only [encIx, Prod.mk.injEq, List.cons.injEq, and_true, true_and] at h
      obtain ⟨_, h1, h3⟩ := h
      rw [Subtype.ext (pB_inj h1), cB_inj h3]
noncomputable def ixS : SpecFn := mkS2 encIx resIx
theorem ixS_a (g : Bool) (l : List Pl) (h : l.length ≤ 200) (k : Int) : ixS [.list 2 (l.map Pl.cells), .fn (.func (fc g)) [] [.ptr 0 0 0 0, .ptr 1 0 0 0]] [{ gen := 0, kind := 2, elem := 119, size := 1, inl := false, rows := [[.fn (.func 57) [] []]] }, { gen := 0, kind := 2, elem := 55, size := 1, inl := false, rows := [[.int .u64 k]] }] =
    some (.int .i64 (fidx (pk g k) l), [fnB, cB k]) := mkS2_eq (enc := encIx) encIx_inj (.a g ⟨l, h⟩ k)
theorem ixS_b (g : Bool) (l : List Pl) (h : l.length ≤ 200) (k : Int) : ixS [.sl 0 0 0 l.length, .fn (.func (fc g)) [] [.ptr 1 0 0 0, .ptr 2 0 0 0]] [{ gen := 0, kind := 2, elem := 57, size := 2, inl := true, rows := l.map Pl.cells }, { gen := 0, kind := 2, elem := 119, size := 1, inl := false, rows := [[.fn (.func 57) [] []]] }, { gen := 0, kind := 2, elem := 55, size := 1, inl := false, rows := [[.int .u64 k]] }] =
    some (.int .i64 (fidx (pk g k) l), [pB l, fnB, cB k]) := mkS2_eq (enc := encIx) encIx_inj (.b g ⟨l, h⟩ k)
theorem ixS_c (l : List Pl) (h : l.length ≤ 200) (k : Int) : ixS [.sl 0 0 0 l.length, .fn (.func 83) [] [.ptr 1 0 0 0]] [{ gen := 0, kind := 2, elem := 57, size := 2, inl := true, rows := l.map Pl.cells }, { gen := 0, kind := 2, elem := 55, size := 1, inl := false, rows := [[.int .u64 k]] }] =
    some (.int .i64 (fidx (pk true k) l), [pB l, cB k]) := mkS2_eq (enc := encIx) encIx_inj (.c ⟨l, h⟩ k)
noncomputable def ix_specs : NL Spec := [(73, ⟨3, c2S true⟩), (74, ⟨3, c2S false⟩), (83, ⟨3, c1S⟩)]
theorem ix_specs_ok : ∀ p ∈ ix_specs, FnC Try.prog p.1 p.2.fn := by
  simp only [ix_specs, List.mem_cons, List.not_mem_nil, or_false]
  rintro p (rfl | rfl | rfl)
  · exact c73_ok
  · exact c74_ok
  · exact c83_ok
attribute [local simp] ix_specs c2S_eq c1S_eq
theorem ixA73 (l : List Pl) (hl : l.length ≤ 200) (k : Int) : W Try.prog (RetB Try.prog Try.f72 2 (.int .i64 (fidx (pk true k) l)) [fnB, cB k]) (codeOf Try.f72) [] ⟨19, [(0, .list 2 (l.map Pl.cells)), (1, .fn (.func 73) [] [.ptr 0 0 0 0, .ptr 1 0 0 0])], [(0, fnB), (1, cB k)]⟩ := by
  repeat (first | refine N.seq ?_ | refine N.blk ?_ | refine W.seq rfl ?_ | refine W.block rfl ?_ | refine W.skip rfl ?_ | refine W.ret rfl ?_ | refine N.nil ?_ | refine N.loop ?_ | refine W.exit rfl ?_ | refine X.seq ?_ | refine X.loop ?_ | refine X.hit ?_ | refine X.pass (by decide) ?_ | refine W.condT rfl (by rfl) ?_ | refine W.condF rfl (by rfl) ?_ | refine W.region tm ix_specs_ok rfl (by conv => lhs; simp [fnB, cB, pB]) fun _ => ?_ | refine W.regionD tm ix_specs_ok rfl (by conv => lhs; simp [fnB, cB, pB]) (by conv => lhs; simp) (by kernel_rfl) fun _ => ?_)
  refine W.loop rfl (ι := { j : Nat // j ≤ l.length ∧ ∀ i y, i < j → l[i]? = some y → pk true k y = false }) (fun j => ⟨19, [(0, .list 2 (l.map Pl.cells)), (1, .fn (.func 73) [] [.ptr 0 0 0 0, .ptr 1 0 0 0]), (7, .int .i64 l.length), (8, .int .i64 j.1)], [(0, fnB), (1, cB k)]⟩) (fun j => l.length - j.1)
    ⟨0, by omega, fun i y h => by omega⟩ (AS.le_of rfl ⟨rfl, rfl, rfl, rfl, trivial⟩ (fun _ => rfl)) ?_
  rintro ⟨j, hj, hp⟩
  dsimp only
  by_cases hj2 : j = l.length
  · subst hj2
    have q : ¬ (l.length : Int) < l.length := by omega
    repeat (first | refine N.seq ?_ | refine N.blk ?_ | refine W.seq rfl ?_ | refine W.block rfl ?_ | refine W.skip rfl ?_ | refine W.ret rfl ?_ | refine N.nil ?_ | refine N.loop ?_ | refine W.exit rfl ?_ | refine X.seq ?_ | refine X.loop ?_ | refine X.hit ?_ | refine X.pass (by decide) ?_ | refine W.condT rfl (by rfl) ?_ | refine W.condF rfl (by rfl) ?_ | refine W.region tm ix_specs_ok rfl (by conv => lhs; simp [q, fnB, cB, pB]) fun _ => ?_ | refine W.regionD tm ix_specs_ok rfl (by conv => lhs; simp [q, fnB, cB, pB]) (by conv => lhs; simp) (by kernel_rfl) fun _ => ?_)
    simp only [fidx_none (p := pk true k) (l := l) (fun i y h => hp i y h), fnB, cB, pB]
    first | exact retE2_ok false (by conv => lhs; simp [retE2, frqT, frqV, frqVs, frqL, frq1, reachE, blkRefs, outE, nodupE, firstE, seqO, expB2, expF, refsB, refsL, AV.refs, AV.ren, renL, renB, List.range, List.range.loop, resVs, resV, pack]) | fail "no return here"
  · have hlt : j < l.length := by omega
    have q : (j : Int) < l.length := by omega
    have q2 : ¬ l.length ≤ j := by omega
    obtain ⟨x, hx⟩ := get_lt hlt
    have hw := w64_succ hlt (capX hl)
    rcases Bool.eq_false_or_eq_true (pk true k x) with hq | hq
    · repeat (first | refine N.seq ?_ | refine N.blk ?_ | refine W.seq rfl ?_ | refine W.block rfl ?_ | refine W.skip rfl ?_ | refine W.ret rfl ?_ | refine N.nil ?_ | refine N.loop ?_ | refine W.exit rfl ?_ | refine X.seq ?_ | refine X.loop ?_ | refine X.hit ?_ | refine X.pass (by decide) ?_ | refine W.condT rfl (by rfl) ?_ | refine W.condF rfl (by rfl) ?_ | refine W.region tm ix_specs_ok rfl (by conv => lhs; simp [q, q2, hx, fnB, cB, pB, hq, Pl.cells]) fun _ => ?_ | refine W.regionD tm ix_specs_ok rfl (by conv => lhs; simp [q, q2, hx, fnB, cB, pB, hq, Pl.cells]) (by conv => lhs; simp) (by kernel_rfl) fun _ => ?_)
      simp only [fidx_hit hp hx hq, fnB, cB, pB]
      first | exact retE2_ok false (by conv => lhs; simp [retE2, frqT, frqV, frqVs, frqL, frq1, reachE, blkRefs, outE, nodupE, firstE, seqO, expB2, expF, refsB, refsL, AV.refs, AV.ren, renL, renB, List.range, List.range.loop, resVs, resV, pack]) | fail "no return here"
    · repeat (first | refine N.seq ?_ | refine N.blk ?_ | refine W.seq rfl ?_ | refine W.block rfl ?_ | refine W.skip rfl ?_ | refine W.ret rfl ?_ | refine N.nil ?_ | refine N.loop ?_ | refine W.exit rfl ?_ | refine X.seq ?_ | refine X.loop ?_ | refine X.hit ?_ | refine X.pass (by decide) ?_ | refine W.condT rfl (by rfl) ?_ | refine W.condF rfl (by rfl) ?_ | refine W.region tm ix_specs_ok rfl (by conv => lhs; simp [q, q2, hx, fnB, cB, pB, hq, hw, Pl.cells]) fun _ => ?_ | refine W.regionD tm ix_specs_ok rfl (by conv => lhs; simp [q, q2, hx, fnB, cB, pB, hq, hw, Pl.cells]) (by conv => lhs; simp) (by kernel_rfl) fun _ => ?_)
      refine ⟨⟨j + 1, by omega, fun i y hi hy => ?_⟩, by dsimp only; omega, AS.le_of rfl ⟨rfl, rfl, rfl, rfl, trivial⟩ (fun id => by simp [fnB, cB, pB])⟩
      by_cases e : i = j
      · subst e; rw [hx] at hy; cases hy; exact hq
      · exact hp i y (by omega) hy
theorem ixB73 (l : List Pl) (hl : l.length ≤ 200) (k : Int) : W Try.prog (RetB Try.prog Try.f72 3 (.int .i64 (fidx (pk true k) l)) [pB l, fnB, cB k]) (codeOf Try.f72) [] ⟨19, [(0, .sl 0 0 0 l.length), (1, .fn (.func 73) [] [.ptr 1 0 0 0, .ptr 2 0 0 0])], [(0, pB l), (1, fnB), (2, cB k)]⟩ := by
  repeat (first | refine N.seq ?_ | refine N.blk ?_ | refine W.seq rfl ?_ | refine W.block rfl ?_ | refine W.skip rfl ?_ | refine W.ret rfl ?_ | refine N.nil ?_ | refine N.loop ?_ | refine W.exit rfl ?_ | refine X.seq ?_ | refine X.loop ?_ | refine X.hit ?_ | refine X.pass (by decide) ?_ | refine W.condT rfl (by rfl) ?_ | refine W.condF rfl (by rfl) ?_ | refine W.region tm ix_specs_ok rfl (by conv => lhs; simp [fnB, cB, pB]) fun _ => ?_ | refine W.regionD tm ix_specs_ok rfl (by conv => lhs; simp [fnB, cB, pB]) (by conv => lhs; simp) (by kernel_rfl) fun _ => ?_)
  refine W.loop rfl (ι := { j : Nat // j ≤ l.length ∧ ∀ i y, i < j → l[i]? = some y → pk true k y = false }) (fun j => ⟨19, [(0, .sl 0 0 0 l.length), (1, .fn (.func 73) [] [.ptr 1 0 0 0, .ptr 2 0 0 0]), (7, .int .i64 l.length), (8, .int .i64 j.1)], [(0, pB l), (1, fnB), (2, cB k)]⟩) (fun j => l.length - j.1)
    ⟨0, by omega, fun i y h => by omega⟩ (AS.le_of rfl ⟨rfl, rfl, rfl, rfl, trivial⟩ (fun _ => rfl)) ?_
  rintro ⟨j, hj, hp⟩
  dsimp only
  by_cases hj2 : j = l.length
  · subst hj2
    have q : ¬ (l.length : Int) < l.length := by omega
    repeat (first | refine N.seq ?_ | refine N.blk ?_ | refine W.seq rfl ?_ | refine W.block rfl ?_ | refine W.skip rfl ?_ | refine W.ret rfl ?_ | refine N.nil ?_ | refine N.loop ?_ | refine W.exit rfl ?_ | refine X.seq ?_ | refine X.loop ?_ | refine X.hit ?_ | refine X.pass (by decide) ?_ | refine W.condT rfl (by rfl) ?_ | refine W.condF rfl (by rfl) ?_ | refine W.region tm ix_specs_ok rfl (by conv => lhs; simp [q, fnB, cB, pB]) fun _ => ?_ | refine W.regionD tm ix_specs_ok rfl (by conv => lhs; simp [q, fnB, cB, pB]) (by conv => lhs; simp) (by kernel_rfl) fun _ => ?_)
    simp only [fidx_none (p := pk true k) (l := l) (fun i y h => hp i y h), fnB, cB, pB]
    first | exact retE2_ok false (by conv => lhs; simp [retE2, frqT, frqV, frqVs, frqL, frq1, reachE, blkRefs, outE, nodupE, firstE, seqO, expB2, expF, refsB, refsL, AV.refs, AV.ren, renL, renB, List.range, List.range.loop, resVs, resV, pack]) | fail "no return here"
  · have hlt : j < l.length := by omega
    have q : (j : Int) < l.length := by omega
    have q2 : ¬ l.length ≤ j := by omega
    obtain ⟨x, hx⟩ := get_lt hlt
    have hw := w64_succ hlt (capX hl)
    rcases Bool.eq_false_or_eq_true (pk true k x) with hq | hq
    · repeat (first | refine N.seq ?_ | refine N.blk ?_ | refine W.seq rfl ?_ | refine W.block rfl ?_ | refine W.skip rfl ?_ | refine W.ret rfl ?_ | refine N.nil ?_ | refine N.loop ?_ | refine W.exit rfl ?_ | refine X.seq ?_ | refine X.loop ?_ | refine X.hit ?_ | refine X.pass (by decide) ?_ | refine W.condT rfl (by rfl) ?_ | refine W.condF rfl (by rfl) ?_ | refine W.region tm ix_specs_ok rfl (by conv => lhs; simp [q, q2, hx, fnB, cB, pB, hq, Pl.cells]) fun _ => ?_ | refine W.regionD tm ix_specs_ok rfl (by conv => lhs; simp [q, q2, hx, fnB, cB, pB, hq, Pl.cells]) (by conv => lhs; simp) (by kernel_rfl) fun _ => ?_)
      simp only [fidx_hit hp hx hq, fnB, cB, pB]
      first | exact retE2_ok false (by conv => lhs; simp [retE2, frqT, frqV, frqVs, frqL, frq1, reachE, blkRefs, outE, nodupE, firstE, seqO, expB2, expF, refsB, refsL, AV.refs, AV.ren, renL, renB, List.range, List.range.loop, resVs, resV, pack]) | fail "no return here"
    · repeat (first | refine N.seq ?_ | refine N.blk ?_ | refine W.seq rfl ?_ | refine W.block rfl ?_ | refine W.skip rfl ?_ | refine W.ret rfl ?_ | refine N.nil ?_ | refine N.loop ?_ | refine W.exit rfl ?_ | refine X.seq ?_ | refine X.loop ?_ | refine X.hit ?_ | refine X.pass (by decide) ?_ | refine W.condT rfl (by rfl) ?_ | refine W.condF rfl (by rfl) ?_ | refine W.region tm ix_specs_ok rfl (by conv => lhs; simp [q, q2, hx, fnB, cB, pB, hq, hw, Pl.cells]) fun _ => ?_ | refine W.regionD tm ix_specs_ok rfl (by conv => lhs; simp [q, q2, hx, fnB, cB, pB, hq, hw, Pl.cells]) (by conv => lhs; simp) (by kernel_rfl) fun _ => ?_)
      refine ⟨⟨j + 1, by omega, fun i y hi hy => ?_⟩, by dsimp only; omega, AS.le_of rfl ⟨rfl, rfl, rfl, rfl, trivial⟩ (fun id => by simp [fnB, cB, pB])⟩
      by_cases e : i = j
      · subst e; rw [hx] at hy; cases hy; exact hq
      · exact hp i y (by omega) hy
theorem ixA74 (l : List Pl) (hl : l.length ≤ 200) (k : Int) : W Try.prog (RetB Try.prog Try.f72 2 (.int .i64 (fidx (pk false k) l)) [fnB, cB k]) (codeOf Try.f72) [] ⟨19, [(0, .list 2 (l.map Pl.cells)), (1, .fn (.func 74) [] [.ptr 0 0 0 0, .ptr 1 0 0 0])], [(0, fnB), (1, cB k)]⟩ := by
  repeat (first | refine N.seq ?_ | refine N.blk ?_ | refine W.seq rfl ?_ | refine W.block rfl ?_ | refine W.skip rfl ?_ | refine W.ret rfl ?_ | refine N.nil ?_ | refine N.loop ?_ | refine W.exit rfl ?_ | refine X.seq ?_ | refine X.loop ?_ | refine X.hit ?_ | refine X.pass (by decide) ?_ | refine W.condT rfl (by rfl) ?_ | refine W.condF rfl (by rfl) ?_ | refine W.region tm ix_specs_ok rfl (by conv => lhs; simp [fnB, cB, pB]) fun _ => ?_ | refine W.regionD tm ix_specs_ok rfl (by conv => lhs; simp [fnB, cB, pB]) (by conv => lhs; simp) (by kernel_rfl) fun _ => ?_)
  refine W.loop rfl (ι := { j : Nat // j ≤ l.length ∧ ∀ i y, i < j → l[i]? = some y → pk false k y = false }) (fun j => ⟨19, [(0, .list 2 (l.map Pl.cells)), (1, .fn (.func 74) [] [.ptr 0 0 0 0, .ptr 1 0 0 0]), (7, .int .i64 l.length), (8, .int .i64 j.1)], [(0, fnB), (1, cB k)]⟩) (fun j => l.length - j.1)
    ⟨0, by omega, fun i y h => by omega⟩ (AS.le_of rfl ⟨rfl, rfl, rfl, rfl, trivial⟩ (fun _ => rfl)) ?_
  rintro ⟨j, hj, hp⟩
  dsimp only
  by_cases hj2 : j = l.length
  · subst hj2
    have q : ¬ (l.length : Int) < l.length := by omega
    repeat (first | refine N.seq ?_ | refine N.blk ?_ | refine W.seq rfl ?_ | refine W.block rfl ?_ | refine W.skip rfl ?_ | refine W.ret rfl ?_ | refine N.nil ?_ | refine N.loop ?_ | refine W.exit rfl ?_ | refine X.seq ?_ | refine X.loop ?_ | refine X.hit ?_ | refine X.pass (by decide) ?_ | refine W.condT rfl (by rfl) ?_ | refine W.condF rfl (by rfl) ?_ | refine W.region tm ix_specs_ok rfl (by conv => lhs; simp [q, fnB, cB, pB]) fun _ => ?_ | refine W.regionD tm ix_specs_ok rfl (by conv => lhs; simp [q, fnB, cB, pB]) (by conv => lhs; simp) (by kernel_rfl) fun _ => ?_)
    simp only [fidx_none (p := pk false k) (l := l) (fun i y h => hp i y h), fnB, cB, pB]
    first | exact retE2_ok false (by conv => lhs; simp [retE2, frqT, frqV, frqVs, frqL, frq1, reachE, blkRefs, outE, nodupE, firstE, seqO, expB2, expF, refsB, refsL, AV.refs, AV.ren, renL, renB, List.range, List.range.loop, resVs, resV, pack]) | fail "no return here"
  · have hlt : j < l.length := by omega
    have q : (j : Int) < l.length := by omega
    have q2 : ¬ l.length ≤ j := by omega
    obtain ⟨x, hx⟩ := get_lt hlt
    have hw := w64_succ hlt (capX hl)
    rcases Bool.eq_false_or_eq_true (pk false k x) with hq | hq
    · repeat (first | refine N.seq ?_ | refine N.blk ?_ | refine W.seq rfl ?_ | refine W.block rfl ?_ | refine W.skip rfl ?_ | refine W.ret rfl ?_ | refine N.nil ?_ | refine N.loop ?_ | refine W.exit rfl ?_ | refine X.seq ?_ | refine X.loop ?_ | refine X.hit ?_ | refine X.pass (by decide) ?_ | refine W.condT rfl (by rfl) ?_ | refine W.condF rfl (by rfl) ?_ | refine W.region tm ix_specs_ok rfl (by conv => lhs; simp [q, q2, hx, fnB, cB, pB, hq, Pl.cells]) fun _ => ?_ | refine W.regionD tm ix_specs_ok rfl (by conv => lhs; simp [q, q2, hx, fnB, cB, pB, hq, Pl.cells]) (by conv => lhs; simp) (by kernel_rfl) fun _ => ?_)
      simp only [fidx_hit hp hx hq, fnB, cB, pB]
      first | exact retE2_ok false (by conv => lhs; simp [retE2, frqT, frqV, frqVs, frqL, frq1, reachE, blkRefs, outE, nodupE, firstE, seqO, expB2, expF, refsB, refsL, AV.refs, AV.ren, renL, renB, List.range, List.range.loop, resVs, resV, pack]) | fail "no return here"
    · repeat (first | refine N.seq ?_ | refine N.blk ?_ | refine W.seq rfl ?_ | refine W.block rfl ?_ | refine W.skip rfl ?_ | refine W.ret rfl ?_ | refine N.nil ?_ | refine N.loop ?_ | refine W.exit rfl ?_ | refine X.seq ?_ | refine X.loop ?_ | refine X.hit ?_ | refine X.pass (by decide) ?_ | refine W.condT rfl (by rfl) ?_ | refine W.condF rfl (by rfl) ?_ | refine W.region tm ix_specs_ok rfl (by conv => lhs; simp [q, q2, hx, fnB, cB, pB, hq, hw, Pl.cells]) fun _ => ?_ | refine W.regionD tm ix_specs_ok rfl (by conv => lhs; simp [q, q2, hx, fnB, cB, pB, hq, hw, Pl.cells]) (by conv => lhs; simp) (by kernel_rfl) fun _ => ?_)
      refine ⟨⟨j + 1, by omega, fun i y hi hy => ?_⟩, by dsimp only; omega, AS.le_of rfl ⟨rfl, rfl, rfl, rfl, trivial⟩ (fun id => by simp [fnB, cB, pB])⟩
      by_cases e : i = j
      · subst e; rw [hx] at hy; cases hy; exact hq
      · exact hp i y (by omega) hy
theorem ixB74 (l : List Pl) (hl : l.length ≤ 200) (k : Int) : W Try.prog (RetB Try.prog Try.f72 3 (.int .i64 (fidx (pk false k) l)) [pB l, fnB, cB k]) (codeOf Try.f72) [] ⟨19, [(0, .sl 0 0 0 l.length), (1, .fn (.func 74) [] [.ptr 1 0 0 0, .ptr 2 0 0 0])], [(0, pB l), (1, fnB), (2, cB k)]⟩ := by
  repeat (first | refine N.seq ?_ | refine N.blk ?_ | refine W.seq rfl ?_ | refine W.block rfl ?_ | refine W.skip rfl ?_ | refine W.ret rfl ?_ | refine N.nil ?_ | refine N.loop ?_ | refine W.exit rfl ?_ | refine X.seq ?_ | refine X.loop ?_ | refine X.hit ?_ | refine X.pass (by decide) ?_ | refine W.condT rfl (by rfl) ?_ | refine W.condF rfl (by rfl) ?_ | refine W.region tm ix_specs_ok rfl (by conv => lhs; simp [fnB, cB, pB]) fun _ => ?_ | refine W.regionD tm ix_specs_ok rfl (by conv => lhs; simp [fnB, cB, pB]) (by conv => lhs; simp) (by kernel_rfl) fun _ => ?_)
  refine W.loop rfl (ι := { j : Nat // j ≤ l.length ∧ ∀ i y, i < j → l[i]? = some y → pk false k y = false }) (fun j => ⟨19, [(0, .sl 0 0 0 l.length), (1, .fn (.func 74) [] [.ptr 1 0 0 0, .ptr 2 0 0 0]), (7, .int .i64 l.length), (8, .int .i64 j.1)], [(0, pB l), (1, fnB), (2, cB k)]⟩) (fun j => l.length - j.1)
    ⟨0, by omega, fun i y h => by omega⟩ (AS.le_of rfl ⟨rfl, rfl, rfl, rfl, trivial⟩ (fun _ => rfl)) ?_
  rintro ⟨j, hj, hp⟩
  dsimp only
  by_cases hj2 : j = l.length
  · subst hj2
    have q : ¬ (l.length : Int) < l.length := by omega
    repeat (first | refine N.seq ?_ | refine N.blk ?_ | refine W.seq rfl ?_ | refine W.block rfl ?_ | refine W.skip rfl ?_ | refine W.ret rfl ?_ | refine N.nil ?_ | refine N.loop ?_ | refine W.exit rfl ?_ | refine X.seq ?_ | refine X.loop ?_ | refine X.hit ?_ | refine X.pass (by decide) ?_ | refine W.condT rfl (by rfl) ?_ | refine W.condF rfl (by rfl) ?_ | refine W.region tm ix_specs_ok rfl (by conv => lhs; simp [q, fnB, cB, pB]) fun _ => ?_ | refine W.regionD tm ix_specs_ok rfl (by conv => lhs; simp [q, fnB, cB, pB]) (by conv => lhs; simp) (by kernel_rfl) fun _ => ?_)
    simp only [fidx_none (p := pk false k) (l := l) (fun i y h => hp i y h), fnB, cB, pB]
    first | exact retE2_ok false (by conv => lhs; simp [retE2, frqT, frqV, frqVs, frqL, frq1, reachE, blkRefs, outE, nodupE, firstE, seqO, expB2, expF, refsB, refsL, AV.refs, AV.ren, renL, renB, List.range, List.range.loop, resVs, resV, pack]) | fail "no return here"
  · have hlt : j < l.length := by omega
    have q : (j : Int) < l.length := by omega
    have q2 : ¬ l.length ≤ j := by omega
    obtain ⟨x, hx⟩ := get_lt hlt
    have hw := w64_succ hlt (capX hl)
    rcases Bool.eq_false_or_eq_true (pk false k x) with hq | hq
    · repeat (first | refine N.seq ?_ | refine N.blk ?_ | refine W.seq rfl ?_ | refine W.block rfl ?_ | refine W.skip rfl ?_ | refine W.ret rfl ?_ | refine N.nil ?_ | refine N.loop ?_ | refine W.exit rfl ?_ | refine X.seq ?_ | refine X.loop ?_ | refine X.hit ?_ | refine X.pass (by decide) ?_ | refine W.condT rfl (by rfl) ?_ | refine W.condF rfl (by rfl) ?_ | refine W.region tm ix_specs_ok rfl (by conv => lhs; simp [q, q2, hx, fnB, cB, pB, hq, Pl.cells]) fun _ => ?_ | refine W.regionD tm ix_specs_ok rfl (by conv => lhs; simp [q, q2, hx, fnB, cB, pB, hq, Pl.cells]) (by conv => lhs; simp) (by kernel_rfl) fun _ => ?_)
      simp only [fidx_hit hp hx hq, fnB, cB, pB]
      first | exact retE2_ok false (by conv => lhs; simp [retE2, frqT, frqV, frqVs, frqL, frq1, reachE, blkRefs, outE, nodupE, firstE, seqO, expB2, expF, refsB, refsL, AV.refs, AV.ren, renL, renB, List.range, List.range.loop, resVs, resV, pack]) | fail "no return here"
    · repeat (first | refine N.seq ?_ | refine N.blk ?_ | refine W.seq rfl ?_ | refine W.block rfl ?_ | refine W.skip rfl ?_ | refine W.ret rfl ?_ | refine N.nil ?_ | refine N.loop ?_ | refine W.exit rfl ?_ | refine X.seq ?_ | refine X.loop ?_ | refine X.hit ?_ | refine X.pass (by decide) ?_ | refine W.condT rfl (by rfl) ?_ | refine W.condF rfl (by rfl) ?_ | refine W.region tm ix_specs_ok rfl (by conv => lhs; simp [q, q2, hx, fnB, cB, pB, hq, hw, Pl.cells]) fun _ => ?_ | refine W.regionD tm ix_specs_ok rfl (by conv => lhs; simp [q, q2, hx, fnB, cB, pB, hq, hw, Pl.cells]) (by conv => lhs; simp) (by kernel_rfl) fun _ => ?_)
      refine ⟨⟨j + 1, by omega, fun i y hi hy => ?_⟩, by dsimp only; omega, AS.le_of rfl ⟨rfl, rfl, rfl, rfl, trivial⟩ (fun id => by simp [fnB, cB, pB])⟩
      by_cases e : i = j
      · subst e; rw [hx] at hy; cases hy; exact hq
      · exact hp i y (by omega) hy
theorem ixC83 (l : List Pl) (hl : l.length ≤ 200) (k : Int) : W Try.prog (RetB Try.prog Try.f72 2 (.int .i64 (fidx (pk true k) l)) [pB l, cB k]) (codeOf Try.f72) [] ⟨19, [(0, .sl 0 0 0 l.length), (1, .fn (.func 83) [] [.ptr 1 0 0 0])], [(0, pB l), (1, cB k)]⟩ := by
  repeat (first | refine N.seq ?_ | refine N.blk ?_ | refine W.seq rfl ?_ | refine W.block rfl ?_ | refine W.skip rfl ?_ | refine W.ret rfl ?_ | refine N.nil ?_ | refine N.loop ?_ | refine W.exit rfl ?_ | refine X.seq ?_ | refine X.loop ?_ | refine X.hit ?_ | refine X.pass (by decide) ?_ | refine W.condT rfl (by rfl) ?_ | refine W.condF rfl (by rfl) ?_ | refine W.region tm ix_specs_ok rfl (by conv => lhs; simp [fnB, cB, pB]) fun _ => ?_ | refine W.regionD tm ix_specs_ok rfl (by conv => lhs; simp [fnB, cB, pB]) (by conv => lhs; simp) (by kernel_rfl) fun _ => ?_)
  refine W.loop rfl (ι := { j : Nat // j ≤ l.length ∧ ∀ i y, i < j → l[i]? = some y → pk true k y = false }) (fun j => ⟨19, [(0, .sl 0 0 0 l.length), (1, .fn (.func 83) [] [.ptr 1 0 0 0]), (7, .int .i64 l.length), (8, .int .i64 j.1)], [(0, pB l), (1, cB k)]⟩) (fun j => l.length - j.1)
    ⟨0, by omega, fun i y h => by omega⟩ (AS.le_of rfl ⟨rfl, rfl, rfl, rfl, trivial⟩ (fun _ => rfl)) ?_
  rintro ⟨j, hj, hp⟩
  dsimp only
  by_cases hj2 : j = l.length
  · subst hj2
    have q : ¬ (l.length : Int) < l.length := by omega
    repeat (first | refine N.seq ?_ | refine N.blk ?_ | refine W.seq rfl ?_ | refine W.block rfl ?_ | refine W.skip rfl ?_ | refine W.ret rfl ?_ | refine N.nil ?_ | refine N.loop ?_ | refine W.exit rfl ?_ | refine X.seq ?_ | refine X.loop ?_ | refine X.hit ?_ | refine X.pass (by decide) ?_ | refine W.condT rfl (by rfl) ?_ | refine W.condF rfl (by rfl) ?_ | refine W.region tm ix_specs_ok rfl (by conv => lhs; simp [q, fnB, cB, pB]) fun _ => ?_ | refine W.regionD tm ix_specs_ok rfl (by conv => lhs; simp [q, fnB, cB, pB]) (by conv => lhs; simp) (by kernel_rfl) fun _ => ?_)
    simp only [fidx_none (p := pk true k) (l := l) (fun i y h => hp i y h), fnB, cB, pB]
    first | exact retE2_ok false (by conv => lhs; simp [retE2, frqT, frqV, frqVs, frqL, frq1, reachE, blkRefs, outE, nodupE, firstE, seqO, expB2, expF, refsB, refsL, AV.refs, AV.ren, renL, renB, List.range, List.range.loop, resVs, resV, pack]) | fail "no return here"
  · have hlt : j < l.length := by omega
    have q : (j : Int) < l.length := by omega
    have q2 : ¬ l.length ≤ j := by omega
    obtain ⟨x, hx⟩ := get_lt hlt
    have hw := w64_succ hlt (capX hl)
    rcases Bool.eq_false_or_eq_true (pk true k x) with hq | hq
    · repeat (first | refine N.seq ?_ | refine N.blk ?_ | refine W.seq rfl ?_ | refine W.block rfl ?_ | refine W.skip rfl ?_ | refine W.ret rfl ?_ | refine N.nil ?_ | refine N.loop ?_ | refine W.exit rfl ?_ | refine X.seq ?_ | refine X.loop ?_ | refine X.hit ?_ | refine X.pass (by decide) ?_ | refine W.condT rfl (by rfl) ?_ | refine W.condF rfl (by rfl) ?_ | refine W.region tm ix_specs_ok rfl (by conv => lhs; simp [q, q2, hx, fnB, cB, pB, hq, Pl.cells]) fun _ => ?_ | refine W.regionD tm ix_specs_ok rfl (by conv => lhs; simp [q, q2, hx, fnB, cB, pB, hq, Pl.cells]) (by conv => lhs; simp) (by kernel_rfl) fun _ => ?_)
      simp only [fidx_hit hp hx hq, fnB, cB, pB]
      first | exact retE2_ok false (by conv => lhs; simp [retE2, frqT, frqV, frqVs, frqL, frq1, reachE, blkRefs, outE, nodupE, firstE, seqO, expB2, expF, refsB, refsL, AV.refs, AV.ren, renL, renB, List.range, List.range.loop, resVs, resV, pack]) | fail "no return here"
    · repeat (first | refine N.seq ?_ | refine N.blk ?_ | refine W.seq rfl ?_ | refine W.block rfl ?_ | refine W.skip rfl ?_ | refine W.ret rfl ?_ | refine N.nil ?_ | refine N.loop ?_ | refine W.exit rfl ?_ | refine X.seq ?_ | refine X.loop ?_ | refine X.hit ?_ | refine X.pass (by decide) ?_ | refine W.condT rfl (by rfl) ?_ | refine W.condF rfl (by rfl) ?_ | refine W.region tm ix_specs_ok rfl (by conv => lhs; simp [q, q2, hx, fnB, cB, pB, hq, hw, Pl.cells]) fun _ => ?_ | refine W.regionD tm ix_specs_ok rfl (by conv => lhs; simp [q, q2, hx, fnB, cB, pB, hq, hw, Pl.cells]) (by conv => lhs; simp) (by kernel_rfl) fun _ => ?_)
      refine ⟨⟨j + 1, by omega, fun i y hi hy => ?_⟩, by dsimp only; omega, AS.le_of rfl ⟨rfl, rfl, rfl, rfl, trivial⟩ (fun id => by simp [fnB, cB, pB])⟩
      by_cases e : i = j
      · subst e; rw [hx] at hy; cases hy; exact hq
      · exact hp i y (by omega) hy
theorem index_ok : FnC Try.prog 72 ixS := by
  refine FnC.walkB 72 (fn := Try.f72) Try.func72 rfl (by kernel_rfl) (fun x b hb => by
    cases x <;> simp [encIx] at hb
    · rcases hb with rfl | rfl <;> rfl
    · rcases hb with rfl | rfl | rfl <;> rfl
    · rcases hb with rfl | rfl <;> rfl) fun x => ?_
  cases x with
  | a g l k => cases g; exact ixA74 l.1 l.2 k; exact ixA73 l.1 l.2 k
  | b g l k => cases g; exact ixB74 l.1 l.2 k; exact ixB73 l.1 l.2 k
  | c l k => exact ixC83 l.1 l.2 k
end Go.Abs.Po
