/- The statement about forgetting: the walk. Conditions: none. -/
import Derived.Test.YtffoafkdoclfcaaGrL
namespace Go.Abs.Gr
open Go Go.Proofs Go.Abs
set_option maxRecDepth 100000
set_option maxHeartbeats 4000000
set_option linter.unusedSimpArgs false
set_option linter.unusedVariables false
theorem gT_sm (L : List Int) : ∀ (k p : Nat) (T : List Tk) (j : Nat), Sm j T → j + k ≤ 100 → Sm (j + k) (gT L k p T).1
  | 0, _, _, _, h, _ => h
  | k + 1, p, T, j, h, hj => by
    simp only [gT]
    rw [show j + (k + 1) = j + 1 + k by omega]
    refine gT_sm L k _ _ (j + 1) ?_ (by omega)
    split
    · exact (h.note (by omega) _ _).dec
    · exact h.note (by omega) _ _
theorem talks_sm (L : List Int) : Sm 30 (talks L).1 := by
  have g0 := nx_nonneg L 0 (n := 30) (by omega)
  have g1 := nx_lt L 0 (n := 30) (by omega)
  have := gT_sm L (nx L 0 30).toNat (nk L 0) [] 0 ⟨by simp, by simp⟩ (by omega)
  exact ⟨by have := this.1; simp only [talks]; omega, fun x hx => by have := this.2 x hx; omega⟩
theorem lo_comm (a b : Int) : lo a b = lo b a := by unfold lo; split <;> split <;> omega
theorem hi_comm (a b : Int) : hi a b = hi b a := by unfold hi; split <;> split <;> omega
theorem note_comm (l : List Tk) (a b : Int) : note l b a = note l a b := by unfold note; rw [lo_comm b a, hi_comm b a]
def decN : Nat → List Tk → List Tk
  | 0, l => l
  | k + 1, l => dec (decN k l)
theorem fdiv2 (n : Int) : n.fdiv 2 = n / 2 := Int.fdiv_eq_ediv_of_nonneg n (by omega)
theorem decN_small (l : List Tk) (B : Int) (h : ∀ x ∈ l, x.c ≤ B) : ∀ (k : Nat), (∀ x ∈ decN k l, x.c * 2 ^ k ≤ B ∧ (0 < k → 1 ≤ x.c)) := by
  intro k
  induction k with
  | zero => intro x hx; exact ⟨by simpa using h x hx, by omega⟩
  | succ k ih =>
    intro x hx
    simp only [decN, dec, List.mem_filter, List.mem_map] at hx
    obtain ⟨⟨y, hy, rfl⟩, h1⟩ := hx
    have h2 := (ih y hy).1
    have h1 : 1 ≤ y.c.fdiv 2 := of_decide_eq_true h1
    have h3 : (hf y).c = y.c.fdiv 2 := rfl
    rw [h3]
    rw [fdiv2] at h1 ⊢
    refine ⟨?_, fun _ => h1⟩
    have e : y.c / 2 * 2 ^ (k + 1) = (y.c / 2 * 2) * 2 ^ k := by rw [Int.pow_succ, Int.mul_comm (2 ^ k) 2, Int.mul_assoc]
    rw [e]
    refine Int.le_trans (Int.mul_le_mul_of_nonneg_right (by omega) (Int.pow_nonneg (by omega))) h2
theorem decN_end (l : List Tk) (h : ∀ x ∈ l, x.c ≤ 30) : decN 22 l = [] := by
  refine List.eq_nil_iff_forall_not_mem.2 fun x hx => ?_
  have := decN_small l 30 h 22 x hx
  have h1 := this.2 (by omega)
  have h2 := this.1
  omega
theorem decN_len (l : List Tk) : ∀ k, (decN k l).length ≤ l.length
  | 0 => Nat.le_refl _
  | k + 1 => Nat.le_trans (dec_len _) (decN_len l k)
theorem dec_at (l : List Tk) {j : Nat} (hj : j < l.length) (hc : 1 ≤ l[j].c.fdiv 2) : ∃ h : (dec (l.take j)).length < (dec l).length, (dec l)[(dec (l.take j)).length] = hf l[j] := by
  have e : dec l = dec (l.take j) ++ (hf l[j] :: dec (l.drop (j + 1))) := by
    conv => lhs; rw [← List.take_append_drop j l, List.drop_eq_getElem_cons hj]
    rw [dec, List.map_append, List.filter_append, List.map_cons, List.filter_cons, if_pos (decide_eq_true (show 1 ≤ (hf l[j]).c from hc))]
    rfl
  refine ⟨by rw [e]; simp, ?_⟩
  simp only [e]
  rw [List.getElem_append_right (Nat.le_refl _)]
  simp
noncomputable def f_specs : NL Spec := [(8, ⟨0, runFn Try.prog 1000 12 8⟩), (10, ⟨1, sameS⟩), (11, ⟨3, noteS⟩), (13, ⟨1, madeS⟩), (20, ⟨1, decS⟩)]
theorem f_specs_ok : ∀ p ∈ f_specs, FnC Try.prog p.1 p.2.fn := by
  simp only [f_specs, List.mem_cons, List.not_mem_nil, or_false]
  rintro p (rfl | rfl | rfl | rfl | rfl)
  · exact sane_ok
  · exact same_ok
  · exact note_ok
  · exact made_ok
  · exact dec_ok
attribute [local simp] runL stepA execA_eq skipA run_ret run_fail run_get run_put run_asm num lk st lk_st putA AS.ev ofValue ofFlat mkv splice fieldAddrA buildA fillA runF gdst pickA unOpA extractA resVs resV pack frzT inlT inlV frzV frzVs frzL frz1 newId AV.cellsOf AV.flat AV.flat2 specOf loadA_runR capA copyA copyTo srcA sliceCA slice3A appendZA extA AV.place lenCA clearA clearTo expG expB3 List.zipWith renL fF handB renB AV.ren backF backL idsOf freshIds refsL refsB AV.refs List.range List.range.loop placesA sliceRows rowsOf convertA sliceArrA sliceA bndA nilCheckA arrayAtA mmA lookupA keyOf keyOK findA keyEqA foundA makeMapA mapUpdateA appendA rowsA indexA partA fieldA retE2 frqT frqV frqVs frqL frq1 reachE blkRefs outE nodupE firstE seqO expB2 expF instA f_specs sane_run take_len_map List.findIdx?_cons List.findIdx?_nil
def encF (x : { L : List Int // L.length ≤ maxLen } × Int × Int) : List AV := [.list 1 (x.1.1.map ic), .int .u64 x.2.1, .int .u64 x.2.2]
theorem encF_inj {β : Type} {f : { L : List Int // L.length ≤ maxLen } × Int × Int → β} : ∀ x y, encF x = encF y → f x = f y := fun x y h => by
  simp only [encF, List.cons.injEq, AV.list.injEq, AV.int.injEq, true_and, and_true] at h
  obtain ⟨x, a, b⟩ := x
  obtain ⟨y, a', b'⟩ := y
  obtain ⟨h1, rfl, rfl⟩ := h
  obtain rfl : x = y := Subtype.ext (map_inj ic_inj h1)
  rfl
noncomputable def lawFS : SpecFn := mkS encF fun _ => (.bool true, [])
theorem decN_le (l : List Tk) (h : ∀ x ∈ l, x.c ≤ 30) : ∀ k, ∀ x ∈ decN k l, x.c ≤ 30
  | 0 => h
  | k + 1 => fun x hx => by
    simp only [decN, dec, List.mem_filter, List.mem_map] at hx
    obtain ⟨⟨y, hy, rfl⟩, h1⟩ := hx
    have := decN_le l h k y hy
    have h3 : (hf y).c = y.c.fdiv 2 := rfl
    rw [h3, fdiv2]
    omega
theorem lawF_ok : FnC Try.prog 7 lawFS := by
  refine FnC.walk 7 (fn := Try.f7) Try.func7 rfl (by kernel_rfl) fun x => ?_
  obtain ⟨⟨L, hL⟩, a, b⟩ := x
  change W _ _ _ _ ⟨96, [(0, .list 1 (L.map ic)), (1, .int .u64 a), (2, .int .u64 b)], []⟩
  have hM := madeS_eq L hL
  have hS := talks_sm L
  generalize (talks L).1 = T0 at hM hS
  have hX : T0.length ≤ 200 := by have := hS.1; omega
  have hN1 := noteS_eq T0 (a.tmod 9) (b.tmod 9) hX
  have hN2 := noteS_eq T0 (b.tmod 9) (a.tmod 9) hX
  rw [note_comm] at hN2
  have hE := sameS_eq (note T0 (a.tmod 9) (b.tmod 9)) (note_len T0 _ _ hX)
  repeat (first | refine N.seq ?_ | refine N.blk ?_ | refine W.seq rfl ?_ | refine W.block rfl ?_ | refine W.skip rfl ?_ | refine W.ret rfl ?_ | refine N.nil ?_ | refine N.loop ?_ | refine W.exit rfl ?_ | refine X.seq ?_ | refine X.loop ?_ | refine X.hit ?_ | refine X.pass (by decide) ?_ | refine W.condT rfl (by rfl) ?_ | refine W.condF rfl (by rfl) ?_ | refine W.region tm f_specs_ok rfl (by conv => lhs; simp [hM, hN1, hN2, hE]) fun _ => ?_ | refine W.regionD tm f_specs_ok rfl (by conv => lhs; simp [hM, hN1, hN2, hE]) (by conv => lhs; simp) (by kernel_rfl) fun _ => ?_)
  refine W.loop rfl (ι := { q : Nat × NL ABlk // q.1 ≤ 22 }) (fun q => ⟨96, [(7, .list 3 ((decN q.1.1 T0).map Tk.cells)), (9, .int .i64 q.1.1)], q.1.2⟩) (fun q => 22 - q.1.1)
    ⟨(0, _), by simp⟩ (AS.le_of rfl ⟨rfl, rfl, trivial⟩ (fun _ => rfl)) ?_
  rintro ⟨⟨k, h⟩, hk⟩
  dsimp only at hk ⊢
  have hB := decN_le T0 (fun x hx => (hS.2 x hx).2) k
  clear hM hN1 hN2 hE
  have hYl : (decN k T0).length ≤ 200 := Nat.le_trans (decN_len T0 k) hX
  by_cases hk2 : k = 22
  · subst hk2
    have he := decN_end T0 (fun x hx => (hS.2 x hx).2)
    rw [he]
    repeat (first | refine N.seq ?_ | refine N.blk ?_ | refine W.seq rfl ?_ | refine W.block rfl ?_ | refine W.skip rfl ?_ | refine W.ret rfl ?_ | refine N.nil ?_ | refine N.loop ?_ | refine W.exit rfl ?_ | refine X.seq ?_ | refine X.loop ?_ | refine X.hit ?_ | refine X.pass (by decide) ?_ | refine W.condT rfl (by rfl) ?_ | refine W.condF rfl (by rfl) ?_ | refine W.region tm f_specs_ok rfl (by conv => lhs; simp) fun _ => ?_ | refine W.regionD tm f_specs_ok rfl (by conv => lhs; simp) (by conv => lhs; simp) (by kernel_rfl) fun _ => ?_)
    first | exact Ret.dataR rfl (by conv => lhs; simp) (by conv => lhs; simp) (by first | rfl | simp [inlT, inlV]) | fail "no return here"
  · have q : (k : Int) < 22 := by omega
    have wk : IntKind.i64.wrap ((k : Int) + 1) = (k : Int) + 1 := w64 (by omega) (by omega)
    have hy : dec (decN k T0) = decN (k + 1) T0 := rfl
    have hD := decS_eq (decN k T0) hYl
    rw [hy] at hD
    generalize decN k T0 = x at hYl hy hD hB ⊢
    have hyl : (decN (k + 1) T0).length ≤ 200 := by rw [← hy]; exact Nat.le_trans (dec_len x) hYl
    generalize hY : decN (k + 1) T0 = y at hD hyl hy
    repeat (first | refine N.seq ?_ | refine N.blk ?_ | refine W.seq rfl ?_ | refine W.block rfl ?_ | refine W.skip rfl ?_ | refine W.ret rfl ?_ | refine N.nil ?_ | refine N.loop ?_ | refine W.exit rfl ?_ | refine X.seq ?_ | refine X.loop ?_ | refine X.hit ?_ | refine X.pass (by decide) ?_ | refine W.condT rfl (by rfl) ?_ | refine W.condF rfl (by rfl) ?_ | refine W.region tm f_specs_ok rfl (by conv => lhs; simp [q, hD]) fun _ => ?_ | refine W.regionD tm f_specs_ok rfl (by conv => lhs; simp [q, hD]) (by conv => lhs; simp) (by kernel_rfl) fun _ => ?_)
    refine W.loop rfl (ι := { q : Nat × NL ABlk // q.1 ≤ x.length })
      (fun q => ⟨96, [(9, .int .i64 k), (10, .list 3 (y.map Tk.cells)), (11, .int .i64 (dec (x.take q.1.1)).length), (41, .list 3 (x.map Tk.cells)), (42, .int .i64 x.length), (43, .int .i64 q.1.1)], q.1.2⟩) (fun q => x.length - q.1.1)
      ⟨(0, _), by simp⟩ (AS.le_of rfl ⟨rfl, rfl, rfl, rfl, rfl, rfl, trivial⟩ (fun _ => rfl)) ?_
    rintro ⟨⟨j, h'⟩, hj⟩
    dsimp only at hj ⊢
    by_cases hj2 : j = x.length
    · subst hj2
      have q' : ¬ (x.length : Int) < x.length := by omega
      rw [List.take_of_length_le (Nat.le_refl _), hy]
      repeat (first | refine N.seq ?_ | refine N.blk ?_ | refine W.seq rfl ?_ | refine W.block rfl ?_ | refine W.skip rfl ?_ | refine W.ret rfl ?_ | refine N.nil ?_ | refine N.loop ?_ | refine W.exit rfl ?_ | refine X.seq ?_ | refine X.loop ?_ | refine X.hit ?_ | refine X.pass (by decide) ?_ | refine W.condT rfl (by rfl) ?_ | refine W.condF rfl (by rfl) ?_ | refine W.region tm f_specs_ok rfl (by conv => lhs; simp [q', wk]) fun _ => ?_ | refine W.regionD tm f_specs_ok rfl (by conv => lhs; simp [q', wk]) (by conv => lhs; simp) (by kernel_rfl) fun _ => ?_)
      exact ⟨⟨(k + 1, _), by omega⟩, by dsimp only; omega, AS.le_of rfl ⟨by rw [hY]; rfl, rfl, trivial⟩ (fun _ => rfl)⟩
    · have hlt : j < x.length := by omega
      have q' : (j : Int) < x.length := by omega
      have hw := w64_succ hlt (Nat.le_trans hYl (by decide))
      have hsucc := dec_take_succ x hlt
      have hil : (dec (x.take j)).length ≤ 200 := by have := dec_len (x.take j); rw [List.length_take] at this; omega
      by_cases hc : 2 ≤ x[j].c
      · have hc1 : 1 ≤ x[j].c.fdiv 2 := by rw [fdiv2]; omega
        rw [if_pos (show 1 ≤ (hf x[j]).c from hc1)] at hsucc
        obtain ⟨hi1, hi2⟩ := dec_at x hlt hc1
        have hsl : (dec (x.take (j + 1))).length = (dec (x.take j)).length + 1 := by rw [hsucc]; simp
        generalize (dec (x.take j)).length = i at hi1 hi2 hil hsl ⊢
        have hi1' : i < y.length := by rw [← hy]; exact hi1
        have hi2' : y[i] = hf x[j] := by
          subst hy
          exact hi2
        have hi3 : ¬ (y.length : Int) ≤ i := by omega
        have wi : IntKind.i64.wrap ((i : Int) + 1) = (i : Int) + 1 := w64 (by omega) (by omega)
        have e1 : y[i].a = x[j].a := by rw [hi2']; rfl
        have e2 : y[i].b = x[j].b := by rw [hi2']; rfl
        have e3 : y[i].c = x[j].c.fdiv 2 := by rw [hi2']; rfl
        have e4 : IntKind.i64.wrap (x[j].c.tdiv 2) = x[j].c.fdiv 2 := by
          have hb := hB _ (List.getElem_mem hlt)
          rw [half_pos (.inl (by omega)), fdiv2]
          exact w64 (by omega) (by omega)
        repeat (first | refine N.seq ?_ | refine N.blk ?_ | refine W.seq rfl ?_ | refine W.block rfl ?_ | refine W.skip rfl ?_ | refine W.ret rfl ?_ | refine N.nil ?_ | refine N.loop ?_ | refine W.exit rfl ?_ | refine X.seq ?_ | refine X.loop ?_ | refine X.hit ?_ | refine X.pass (by decide) ?_ | refine W.condT rfl (by rfl) ?_ | refine W.condF rfl (by rfl) ?_ | refine W.region tm f_specs_ok rfl (by conv => lhs; simp [q', hlt, Tk.cells, hc, hi3, hi1', e1, e2, e3, e4, hw, wi]) fun _ => ?_ | refine W.regionD tm f_specs_ok rfl (by conv => lhs; simp [q', hlt, Tk.cells, hc, hi3, hi1', e1, e2, e3, e4, hw, wi]) (by conv => lhs; simp) (by kernel_rfl) fun _ => ?_)
        exact ⟨⟨(j + 1, _), by omega⟩, by dsimp only; omega, AS.le_of rfl ⟨rfl, rfl, by rw [hsl]; rfl, rfl, rfl, rfl, trivial⟩ (fun _ => rfl)⟩
      · have hc1 : ¬ 1 ≤ x[j].c.fdiv 2 := by rw [fdiv2]; omega
        rw [if_neg (show ¬ 1 ≤ (hf x[j]).c from hc1)] at hsucc
        repeat (first | refine N.seq ?_ | refine N.blk ?_ | refine W.seq rfl ?_ | refine W.block rfl ?_ | refine W.skip rfl ?_ | refine W.ret rfl ?_ | refine N.nil ?_ | refine N.loop ?_ | refine W.exit rfl ?_ | refine X.seq ?_ | refine X.loop ?_ | refine X.hit ?_ | refine X.pass (by decide) ?_ | refine W.condT rfl (by rfl) ?_ | refine W.condF rfl (by rfl) ?_ | refine W.region tm f_specs_ok rfl (by conv => lhs; simp [q', hlt, Tk.cells, hc, hw]) fun _ => ?_ | refine W.regionD tm f_specs_ok rfl (by conv => lhs; simp [q', hlt, Tk.cells, hc, hw]) (by conv => lhs; simp) (by kernel_rfl) fun _ => ?_)
        exact ⟨⟨(j + 1, _), by omega⟩, by dsimp only; omega, AS.le_of rfl ⟨rfl, rfl, by rw [hsucc]; rfl, rfl, rfl, rfl, trivial⟩ (fun _ => rfl)⟩
end Go.Abs.Gr
