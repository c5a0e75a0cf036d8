/- The talks and processes that are made of a deck. Conditions: none. -/
import Derived.Test.YtffoafkdoclfcaaGrK
namespace Go.Abs.Gr
open Go Go.Proofs Go.Abs
set_option maxRecDepth 100000
set_option maxHeartbeats 4000000
set_option linter.unusedSimpArgs false
set_option linter.unusedVariables false
def gT (L : List Int) : Nat → Nat → List Tk → List Tk × Nat
  | 0, p, T => (T, p)
  | k + 1, p, T => gT L k (nk L (nk L (nk L p))) (if nx L (nk L (nk L p)) 12 = 0 then dec (note T (nx L p 9) (nx L (nk L p) 9)) else note T (nx L p 9) (nx L (nk L p) 9))
def gP (L : List Int) : Nat → Nat → List Int → List Int
  | 0, _, l => l
  | k + 1, p, l => gP L k (nk L p) (l ++ [nx L p 9])
def talks (L : List Int) : List Tk × Nat := gT L (nx L 0 30).toNat (nk L 0) []
def procs (L : List Int) : List Int := gP L (nx L (talks L).2 10).toNat (nk L (talks L).2) []
/-- Few talks, small counts. -/
def Sm (j : Nat) (T : List Tk) : Prop := T.length ≤ j ∧ ∀ x ∈ T, 0 ≤ x.c ∧ x.c ≤ j
theorem Sm.note {j : Nat} {T : List Tk} (h : Sm j T) (hj : j ≤ 100) (a b : Int) : Sm (j + 1) (note T a b) := by
  unfold Gr.note
  split
  · exact ⟨by have := h.1; omega, fun x hx => by have := h.2 x hx; omega⟩
  · split
    · rename_i i hi
      refine ⟨by simpa using Nat.le_succ_of_le h.1, fun x hx => ?_⟩
      obtain ⟨n, hn, rfl⟩ := List.mem_iff_getElem.1 hx
      simp only [List.length_modify] at hn
      have h2 := h.2 _ (List.getElem_mem hn)
      rw [List.getElem_modify]
      split
      · simp only [upT]
        rw [w64] <;> split <;> omega
      · omega
    · split
      · exact ⟨by have := h.1; omega, fun x hx => by have := h.2 x hx; omega⟩
      · refine ⟨?_, fun x hx => ?_⟩
        · have := h.1
          simp [ins]; omega
        · simp only [ins, List.mem_append, List.mem_cons] at hx
          rcases hx with hx | rfl | hx
          · have := h.2 x (List.mem_of_mem_take hx); omega
          · simp only; omega
          · have := h.2 x (List.mem_of_mem_drop hx); omega
theorem Sm.dec {j : Nat} {T : List Tk} (h : Sm j T) : Sm j (dec T) := by
  refine ⟨Nat.le_trans (dec_len T) h.1, fun x hx => ?_⟩
  simp only [Gr.dec, List.mem_filter, List.mem_map] at hx
  obtain ⟨⟨y, hy, rfl⟩, h1⟩ := hx
  have h2 := h.2 y hy
  simp only [hf, decide_eq_true_eq] at h1 ⊢
  have e3 : y.c.fdiv 2 = y.c / 2 := Int.fdiv_eq_ediv_of_nonneg _ (by omega)
  omega
theorem Sm.in64 {j : Nat} {T : List Tk} (h : Sm j T) (hj : j ≤ 100) : ∀ x ∈ T, in64 x.c := fun x hx => by
  have := h.2 x hx
  exact ⟨by omega, by omega⟩
def uc (n : Int) : List AV := [.int .u64 n]
theorem uc_inj (x y : Int) (h : uc x = uc y) : x = y := by simpa [uc] using h
theorem noterS_eq' (l : List Tk) (a b : Int) (h : l.length ≤ 200) : noterS [.list 3 (l.map Tk.cells), .int .u64 a, .int .u64 b] [] = some (.list 3 ((note l a b).map Tk.cells), []) := mkS_eq (enc := encNr) encNr_inj (⟨l, h⟩, a, b)
noncomputable def md_specs : NL Spec := [(28, ⟨3, newS⟩), (29, ⟨3, nextS⟩), (12, ⟨1, noterS⟩), (30, ⟨1, decrS⟩)]
theorem md_specs_ok : ∀ p ∈ md_specs, FnC Try.prog p.1 p.2.fn := by
  simp only [md_specs, List.mem_cons, List.not_mem_nil, or_false]
  rintro p (rfl | rfl | rfl | rfl)
  · exact new_ok
  · exact next_ok
  · exact noter_ok
  · exact decr_ok
attribute [local simp] runL stepA execA_eq skipA run_ret run_fail run_get run_put run_asm num lk st lk_st putA AS.ev ofValue ofFlat mkv splice fieldAddrA buildA fillA runF gdst pickA unOpA extractA resVs resV pack frzT inlT inlV frzV frzVs frzL frz1 newId AV.cellsOf AV.flat AV.flat2 specOf loadA_runR capA copyA copyTo srcA sliceCA slice3A appendZA extA AV.place lenCA clearA clearTo expG expB3 List.zipWith renL fF handB renB AV.ren backF backL idsOf freshIds refsL refsB AV.refs List.range List.range.loop placesA sliceRows rowsOf convertA sliceArrA sliceA bndA nilCheckA arrayAtA mmA lookupA keyOf keyOK findA keyEqA foundA makeMapA mapUpdateA appendA rowsA indexA partA fieldA retE2 frqT frqV frqVs frqL frq1 reachE blkRefs outE nodupE firstE seqO expB2 expF instA take_len_map List.findIdx?_cons List.findIdx?_nil md_specs newS_eq
def encD (L : { L : List Int // L.length ≤ maxLen }) : List AV := [.list 1 (L.1.map ic)]
theorem encD_inj {β : Type} {f : { L : List Int // L.length ≤ maxLen } → β} : ∀ x y, encD x = encD y → f x = f y := fun x y h => by
  simp only [encD, List.cons.injEq, AV.list.injEq, true_and, and_true] at h
  rw [Subtype.ext (map_inj ic_inj h)]
noncomputable def madeS : SpecFn := mkS encD fun L => (.tup [.list 3 ((talks L.1).1.map Tk.cells), .list 1 ((procs L.1).map uc)], [])
theorem madeS_eq (L : List Int) (h : L.length ≤ maxLen) : madeS [.list 1 (L.map ic)] [] = some (.tup [.list 3 ((talks L).1.map Tk.cells), .list 1 ((procs L).map uc)], []) := mkS_eq (enc := encD) encD_inj ⟨L, h⟩
def dk1 (L : List Int) (k : Nat) : ABlk := { gen := 1, kind := 2, elem := 73, size := 2, inl := false, rows := [[.list 1 (L.map ic), .int .i64 (k : Nat)]] }
theorem made_ok : FnC Try.prog 13 madeS := by
  refine FnC.walk 13 (fn := Try.f13) Try.func13 rfl (by kernel_rfl) fun L => ?_
  obtain ⟨L, hL⟩ := L
  change W _ _ _ _ ⟨44, [(0, .list 1 (L.map ic))], []⟩
  have n0 := nextS_eq L 0 30 hL (Nat.zero_le _) (by omega) (by omega)
  simp only [Int.natCast_zero, Int.ofNat_zero] at n0
  repeat (first | refine N.seq ?_ | refine N.blk ?_ | refine W.seq rfl ?_ | refine W.block rfl ?_ | refine W.skip rfl ?_ | refine W.ret rfl ?_ | refine N.nil ?_ | refine N.loop ?_ | refine W.exit rfl ?_ | refine X.seq ?_ | refine X.loop ?_ | refine X.hit ?_ | refine X.pass (by decide) ?_ | refine W.condT rfl (by rfl) ?_ | refine W.condF rfl (by rfl) ?_ | refine W.region tm md_specs_ok rfl (by conv => lhs; simp [n0]) fun _ => ?_ | refine W.regionD tm md_specs_ok rfl (by conv => lhs; simp [n0]) (by conv => lhs; simp) (by kernel_rfl) fun _ => ?_)
  have g0 := nx_nonneg L 0 (n := 30) (by omega)
  have g1 := nx_lt L 0 (n := 30) (by omega)
  obtain ⟨n, hn⟩ : ∃ n : Nat, nx L 0 30 = n := ⟨(nx L 0 30).toNat, by omega⟩
  have htk : gT L n (nk L 0) [] = talks L := by simp [talks, hn]
  rw [hn] at g1 ⊢
  refine W.loop rfl (ι := { q : Nat × Nat × List Tk × NL ABlk // q.2.1 ≤ L.length ∧ q.1 ≤ 30 ∧ Sm (30 - q.1) q.2.2.1 ∧ gT L q.1 q.2.1 q.2.2.1 = talks L ∧ lk q.2.2.2 176 = some (dk1 L q.2.1) ∧ lk q.2.2.2 2000 = none })
    (fun q => ⟨44, [(4, .ptr 176 1 0 0), (5, .list 3 (q.1.2.2.1.map Tk.cells)), (6, .int .i64 q.1.1)], q.1.2.2.2⟩) (fun q => q.1.1)
    ⟨(n, nk L 0, [], _), nk_le (Nat.zero_le _), by dsimp only; omega, ⟨by simp, by simp⟩, htk, by rfl, by rfl⟩ (AS.le_of' rfl ⟨⟨_, rfl, AV.weaker_refl _⟩, ⟨_, rfl, AV.weaker_nils 3⟩, ⟨_, rfl, AV.weaker_refl _⟩, trivial⟩ (fun _ => rfl)) ?_
  rintro ⟨⟨k, p, T, h⟩, hp, hk, hT, hg, hh, hh0⟩
  dsimp only at hp hk hT hg hh hh0 ⊢
  have hTl : T.length ≤ 200 := by have := hT.1; omega
  match k, hk, hT, hg with
  | 0, hk, hT, hg =>
    simp only [gT] at hg
    have n1 := nextS_eq L p 10 hL hp (by omega) (by omega)
    repeat (first | refine N.seq ?_ | refine N.blk ?_ | refine W.seq rfl ?_ | refine W.block rfl ?_ | refine W.skip rfl ?_ | refine W.ret rfl ?_ | refine N.nil ?_ | refine N.loop ?_ | refine W.exit rfl ?_ | refine X.seq ?_ | refine X.loop ?_ | refine X.hit ?_ | refine X.pass (by decide) ?_ | refine W.condT rfl (by rfl) ?_ | refine W.condF rfl (by rfl) ?_ | refine W.region tm md_specs_ok rfl (by conv => lhs; simp [n1, hh, dk1]) fun _ => ?_ | refine W.regionD tm md_specs_ok rfl (by conv => lhs; simp [n1, hh, dk1]) (by conv => lhs; simp) (by kernel_rfl) fun _ => ?_)
    have hpr : gP L (nx L p 10).toNat (nk L p) [] = procs L := by rw [procs, ← hg]
    have g2 := nx_nonneg L p (n := 10) (by omega)
    have g3 := nx_lt L p (n := 10) (by omega)
    have pk := nk_le hp
    obtain ⟨m, hm⟩ : ∃ m : Nat, nx L p 10 = m := ⟨(nx L p 10).toNat, by omega⟩
    rw [hm] at g3 hpr ⊢
    simp only [Int.toNat_natCast] at hpr
    generalize hr : nk L p = r at pk hpr ⊢
    clear n1 hh hT n0
    refine W.phantom (t := 7) 2000 22 1 true rfl (by simp [lk_st, lk, hh0]) (by decide) ?_
    refine W.loop rfl (ι := { q : Nat × Nat × List Int × NL ABlk // q.2.1 ≤ L.length ∧ q.1 + q.2.2.1.length ≤ 10 ∧ gP L q.1 q.2.1 q.2.2.1 = procs L ∧ lk q.2.2.2 176 = some (dk1 L q.2.1) ∧ lk q.2.2.2 2000 = some { gen := q.2.2.1.length, kind := 2, elem := 22, size := 1, inl := true, rows := q.2.2.1.map uc } })
      (fun q => ⟨44, [(4, .ptr 176 1 0 0), (5, .list 3 (T.map Tk.cells)), (7, .sl 2000 q.1.2.2.1.length 0 q.1.2.2.1.length), (8, .int .i64 q.1.1)], q.1.2.2.2⟩) (fun q => q.1.1)
      ⟨(m, r, [], _), pk, by simp; omega, hpr, by simp [lk, lk_st, dk1], by simp [lk]⟩ (AS.le_of rfl ⟨rfl, rfl, rfl, rfl, trivial⟩ (fun _ => rfl)) ?_
    rintro ⟨⟨k, p', acc, h'⟩, hp', hk', hg', hh1, hh2⟩
    dsimp only at hp' hk' hg' hh1 hh2 ⊢
    match k, hk', hg' with
    | 0, hk', hg' =>
      simp only [gP] at hg'
      repeat (first | refine N.seq ?_ | refine N.blk ?_ | refine W.seq rfl ?_ | refine W.block rfl ?_ | refine W.skip rfl ?_ | refine W.ret rfl ?_ | refine N.nil ?_ | refine N.loop ?_ | refine W.exit rfl ?_ | refine X.seq ?_ | refine X.loop ?_ | refine X.hit ?_ | refine X.pass (by decide) ?_ | refine W.condT rfl (by rfl) ?_ | refine W.condF rfl (by rfl) ?_ | refine W.region tm md_specs_ok rfl (by conv => lhs; simp [hh1, hh2]) fun _ => ?_ | refine W.regionD tm md_specs_ok rfl (by conv => lhs; simp [hh1, hh2]) (by conv => lhs; simp) (by kernel_rfl) fun _ => ?_)
      rw [← hg', ← hg]
      first | exact Ret.dataR rfl (by conv => lhs; simp [hh2]) (by conv => lhs; simp [hh2]) (by first | rfl | simp [inlT, inlV]) | fail "no return here"
    | k + 1, hk', hg' =>
      simp only [gP] at hg'
      have n1 := nextS_eq L p' 9 hL hp' (by omega) (by omega)
      have w1 : IntKind.u64.wrap (nx L p' 9) = nx L p' 9 := wu64 (nx_nonneg _ _ (by omega)) (by have := nx_lt L p' (n := 9) (by omega); omega)
      have w4 : IntKind.i64.wrap (k : Int) = (k : Int) := w64 (by omega) (by omega)
      have q0 : (0 : Int) < (k : Int) + 1 := by omega
      have c1 : (acc.length + 1) * 8 ≤ 140737488355328 := by omega
      have c2 : acc.length ≤ 9223372036854775806 := by omega
      repeat (first | refine N.seq ?_ | refine N.blk ?_ | refine W.seq rfl ?_ | refine W.block rfl ?_ | refine W.skip rfl ?_ | refine W.ret rfl ?_ | refine N.nil ?_ | refine N.loop ?_ | refine W.exit rfl ?_ | refine X.seq ?_ | refine X.loop ?_ | refine X.hit ?_ | refine X.pass (by decide) ?_ | refine W.condT rfl (by rfl) ?_ | refine W.condF rfl (by rfl) ?_ | refine W.region tm md_specs_ok rfl (by conv => lhs; simp [n1, hh1, hh2, dk1, w1, w4, q0, c1, c2, maxLen]) fun _ => ?_ | refine W.regionD tm md_specs_ok rfl (by conv => lhs; simp [n1, hh1, hh2, dk1, w1, w4, q0, c1, c2, maxLen]) (by conv => lhs; simp) (by kernel_rfl) fun _ => ?_)
      exact ⟨⟨(k, nk L p', acc ++ [nx L p' 9], _), nk_le hp', by simp; omega, hg', by simp [lk_st, hh1, dk1], by simp [lk_st, hh2, uc]⟩, by dsimp only; omega, AS.le_of rfl ⟨rfl, rfl, by simp [lk], rfl, trivial⟩ (fun _ => rfl)⟩
  | k + 1, hk, hT, hg =>
    have p1 := nk_le hp
    have p2 := nk_le p1
    have p3 := nk_le p2
    have n1 := nextS_eq L p 9 hL hp (by omega) (by omega)
    have n2 := nextS_eq L (nk L p) 9 hL p1 (by omega) (by omega)
    have n3 := nextS_eq L (nk L (nk L p)) 12 hL p2 (by omega) (by omega)
    have w1 : IntKind.u64.wrap (nx L p 9) = nx L p 9 := wu64 (nx_nonneg _ _ (by omega)) (by have := nx_lt L p (n := 9) (by omega); omega)
    have w2 : IntKind.u64.wrap (nx L (nk L p) 9) = nx L (nk L p) 9 := wu64 (nx_nonneg _ _ (by omega)) (by have := nx_lt L (nk L p) (n := 9) (by omega); omega)
    have w3 : IntKind.i64.wrap ((k : Int) + 1 - 1) = (k : Int) := by rw [show (k : Int) + 1 - 1 = k by omega]; exact w64 (by omega) (by omega)
    have w4 : IntKind.i64.wrap (k : Int) = (k : Int) := w64 (by omega) (by omega)
    have q0 : (0 : Int) < (k : Int) + 1 := by omega
    have hN := noterS_eq' T (nx L p 9) (nx L (nk L p) 9) hTl
    have hSm := hT.note (by omega) (nx L p 9) (nx L (nk L p) 9)
    have hSm' : Sm (30 - k) (note T (nx L p 9) (nx L (nk L p) 9)) := by rw [show 30 - k = 30 - (k + 1) + 1 by omega]; exact hSm
    have hD := decrS_eq (note T (nx L p 9) (nx L (nk L p) 9)) (by have := hSm'.1; omega) (hSm'.in64 (by omega))
    simp only [gT] at hg
    by_cases hz : nx L (nk L (nk L p)) 12 = 0
    · rw [if_pos hz] at hg
      have hz' : (nx L (nk L (nk L p)) 12 == 0) = true := by simpa using hz
      repeat (first | refine N.seq ?_ | refine N.blk ?_ | refine W.seq rfl ?_ | refine W.block rfl ?_ | refine W.skip rfl ?_ | refine W.ret rfl ?_ | refine N.nil ?_ | refine N.loop ?_ | refine W.exit rfl ?_ | refine X.seq ?_ | refine X.loop ?_ | refine X.hit ?_ | refine X.pass (by decide) ?_ | refine W.condT rfl (by rfl) ?_ | refine W.condF rfl (by rfl) ?_ | refine W.region tm md_specs_ok rfl (by conv => lhs; simp [n1, n2, n3, hh, dk1, w1, w2, w3, w4, hN, hD, hz', q0]) fun _ => ?_ | refine W.regionD tm md_specs_ok rfl (by conv => lhs; simp [n1, n2, n3, hh, dk1, w1, w2, w3, w4, hN, hD, hz', q0]) (by conv => lhs; simp) (by kernel_rfl) fun _ => ?_)
      exact ⟨⟨(k, nk L (nk L (nk L p)), _, _), p3, by dsimp only; omega, hSm'.dec, hg, by simp [lk_st, hh, dk1], by simp [lk_st, hh0]⟩, by dsimp only; omega, AS.le_of rfl ⟨rfl, rfl, rfl, trivial⟩ (fun _ => rfl)⟩
    · rw [if_neg hz] at hg
      have hz' : (nx L (nk L (nk L p)) 12 == 0) = false := by simpa using hz
      repeat (first | refine N.seq ?_ | refine N.blk ?_ | refine W.seq rfl ?_ | refine W.block rfl ?_ | refine W.skip rfl ?_ | refine W.ret rfl ?_ | refine N.nil ?_ | refine N.loop ?_ | refine W.exit rfl ?_ | refine X.seq ?_ | refine X.loop ?_ | refine X.hit ?_ | refine X.pass (by decide) ?_ | refine W.condT rfl (by rfl) ?_ | refine W.condF rfl (by rfl) ?_ | refine W.region tm md_specs_ok rfl (by conv => lhs; simp [n1, n2, n3, hh, dk1, w1, w2, w3, w4, hN, hz', q0]) fun _ => ?_ | refine W.regionD tm md_specs_ok rfl (by conv => lhs; simp [n1, n2, n3, hh, dk1, w1, w2, w3, w4, hN, hz', q0]) (by conv => lhs; simp) (by kernel_rfl) fun _ => ?_)
      exact ⟨⟨(k, nk L (nk L (nk L p)), _, _), p3, by dsimp only; omega, hSm', hg, by simp [lk_st, hh, dk1], by simp [lk_st, hh0]⟩, by dsimp only; omega, AS.le_of rfl ⟨rfl, rfl, rfl, trivial⟩ (fun _ => rfl)⟩
end Go.Abs.Gr
