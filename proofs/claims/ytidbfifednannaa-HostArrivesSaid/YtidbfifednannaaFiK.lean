/- HostArrives: the stations are counted. Conditions: none. -/
import Derived.Test.YtidbfifednannaaFiG
namespace Go.Abs.Fi
open Go Go.Proofs Go.Abs
set_option maxRecDepth 100000
set_option maxHeartbeats 4000000
set_option linter.unusedSimpArgs false
set_option linter.unusedVariables false
attribute [local simp] runL stepA execA_eq skipA run_ret run_fail run_get run_put run_asm num lk st lk_st putA AS.ev ofValue ofFlat mkv splice fieldAddrA buildA fillA runF gdst pickA unOpA extractA resVs resV pack frzT inlT inlV frzV frzVs frzL frz1 newId AV.cellsOf AV.flat AV.flat2 specOf loadA_runR capA copyA copyTo srcA sliceCA slice3A appendZA extA AV.place lenCA clearA clearTo expG expB3 List.zipWith renL fF handB renB AV.ren backF backL idsOf freshIds refsL refsB AV.refs List.range List.range.loop placesA sliceRows rowsOf convertA sliceArrA sliceA bndA nilCheckA arrayAtA mmA lookupA keyOf keyOK findA keyEqA foundA makeMapA mapUpdateA appendA rowsA indexA partA fieldA retE2 frqT frqV frqVs frqL frq1 reachE blkRefs outE nodupE firstE seqO expB2 expF instA nod ha_specs cellish_hv isInl_hv inl2_hv ren_hv refs_hv R_len
theorem hosted_one {k pl ps us : Nat} {v : Nat → Nat} {w : List (Nat × Nat)} {b : Nat} (hp : pl < 4) (h : Hosted k pl ps us v w b) : w.length + cnt v 4 = 1 ∧ ∀ n, n < 4 → v n < 3 := by
  cases h with
  | «at» h1 h2 h3 h4 =>
    subst h1
    refine ⟨by simp [cnt_one hp h2 h3], fun n hn => ?_⟩
    by_cases e : n = pl
    · subst e; omega
    · have := h3 n hn e; omega
  | way f t h1 ht h3 h4 h5 h6 =>
    subst h1
    exact ⟨by simp [cnt_none h3], fun n hn => by have := h3 n hn; omega⟩
theorem Hosted.next {k pl ps us : Nat} {v : Nat → Nat} {w : List (Nat × Nat)} (h : Hosted k pl ps us v w 1) : Hosted (k + 1) pl ps us v w 0 := by
  cases h with
  | «at» h1 h2 h3 h4 => exact .at h1 h2 h3 h4
  | way f t h1 ht h3 h4 h5 h6 => exact .way f t h1 ht h3 h4 (fun h => h5 (by omega)) (by omega)
theorem ph3 (S : FuncId → SpecFn) (F : HaF S) (L : List Int) (hL : L.length ≤ maxLen) (fs : List Fr) (k pl ps us : Nat) (v : Nat → Nat) (w : List (Nat × Nat)) (id g : Nat) (pre : List (List AV)) (dk : Nat) (h : NL ABlk) (hI : HI L 1 1 ⟨k, pl, ps, us, v, w, id, g, pre, dk, h⟩) : V Try.prog (RetM Try.prog Try.f5 0 (AV.bool true) [])
    (cR (cR (cL (cL (cR (cL (cL (cR (cL (cR (cR (cR (cR (cR (cR (cR (cR (cR (codeOf Try.f5)))))))))))))))))))
    (Fr.blk 3 :: Fr.seq (cR (cR (cL (cL (cR (cL (cR (cR (cR (cR (cR (cR (cR (cR (cR (codeOf Try.f5)))))))))))))))) :: Fr.loop (fun σ' => ∃ j : { q : HS // HI L 0 0 q }, 60 - j.1.k < 60 - k ∧ AS.le (HJ j.1) σ') :: fs)
    (HJ ⟨k, pl, ps, us, v, w, id, g, pre, dk, h⟩) := by
  have hk := hI.k
  have hpl := hI.pl
  have hps := hI.ps
  have hdk := hI.dk
  have hus := hI.us
  have b1 := hI.b1
  have b2 := hI.b2
  have b3 := hI.b3
  dsimp only [HJ] at hk hpl hps hdk hus b1 b2 b3 ⊢
  have qk : (pl : Int) < 4 := by omega
  obtain ⟨n1, n2, n3, n4, n5⟩ : id ≠ 1000 ∧ id ≠ 416 ∧ id ≠ 256 ∧ id ≠ 288 ∧ id ≠ 304 := by
    have := hI.hid
    dsimp only at this
    omega
  have hid : id = 2000 ∨ id = 1232 ∨ id = 2112 := hI.hid
  have n1' := n1.symm
  have n2' := n2.symm
  have n3' := n3.symm
  have n4' := n4.symm
  have n5' := n5.symm
  obtain ⟨ho, hv3⟩ := hosted_one hpl hI.hw
  dsimp only at ho hv3
  have hwl : w.length ≤ 1 := by omega
  have hwm : w.length ≤ maxLen := by simp only [maxLen]; omega
  repeat (first | refine NV.seq ?_ | refine NV.blk ?_ | refine V.seq rfl ?_ | refine V.block rfl ?_ | refine V.skip rfl ?_ | refine V.ret rfl ?_ | refine NV.nil ?_ | refine NV.loop ?_ | refine V.exit rfl ?_ | refine XV.seq ?_ | refine XV.loop ?_ | refine XV.hit ?_ | refine XV.pass (by decide) ?_ | refine V.region tm F.ok rfl (by conv => lhs; simp [b1, b2, b3, stB, wyB, hwm]) fun _ => ?_ | refine V.regionD tm F.ok rfl (by conv => lhs; simp [b1, b2, b3, stB, wyB, hwm]) (by conv => lhs; simp) (by rcases hid with e | e | e <;> subst e <;> kernel_rfl) fun _ => ?_)
  refine V.loop rfl (ι := { i : Nat // i ≤ 4 }) (fun i => ⟨168, [(139, .int .i64 (i.1 : Nat)), (138, .int .i64 4), (20, .int .i64 ((w.length + cnt v i.1 : Nat) : Int)), (13, .int .i64 (k : Nat)), (12, .sl id g pre.length w.length), (11, .int .i64 (us : Nat)), (10, .int .i64 (ps : Nat)), (9, .int .i64 (pl : Nat)), (5, .sl 1000 4 0 4), (4, nod), (3, .ptr 416 1 0 0)], h⟩) (fun i => 4 - i.1)
    ⟨0, by omega⟩ (AS.le_of rfl ⟨rfl, rfl, rfl, rfl, rfl, rfl, rfl, rfl, rfl, rfl, rfl, trivial⟩ (fun _ => rfl)) ?_
  rintro ⟨i, hi⟩
  dsimp only
  by_cases hi4 : i = 4
  · subst hi4
    rw [ho]
    have hwk : IntKind.i64.wrap ((k : Int) + 1) = ((k + 1 : Nat) : Int) := w64 (by omega) (by omega)
    repeat (first | refine NV.seq ?_ | refine NV.blk ?_ | refine V.seq rfl ?_ | refine V.block rfl ?_ | refine V.skip rfl ?_ | refine V.ret rfl ?_ | refine NV.nil ?_ | refine NV.loop ?_ | refine V.exit rfl ?_ | refine XV.seq ?_ | refine XV.loop ?_ | refine XV.hit ?_ | refine XV.pass (by decide) ?_ | refine V.condT rfl (by rfl) ?_ | refine V.condF rfl (by rfl) ?_ | refine V.region tm F.ok rfl (by conv => lhs; simp [b1, b2, b3, stB, hwk]) fun _ => ?_ | refine V.regionD tm F.ok rfl (by conv => lhs; simp [b1, b2, b3, stB, hwk]) (by conv => lhs; simp) (by rcases hid with e | e | e <;> subst e <;> kernel_rfl) fun _ => ?_)
    exact ⟨⟨⟨k + 1, pl, ps, us, v, w, id, g, pre, dk, _⟩, HI.of (by omega) hpl (by omega) hdk hus (Hosted.next hI.hw) hid b1 b2 b3⟩, by dsimp only; omega, AS.le_of rfl ⟨rfl, rfl, rfl, rfl, rfl, rfl, rfl, rfl, trivial⟩ (fun _ => rfl)⟩
  · have hlt : i < 4 := by omega
    have qi : (i : Int) < 4 := by omega
    have f27 := F.f27 i (v i) (hv3 i hlt)
    have hget := R_getE v (k := 4) (n := i)
    simp only [stc] at f27 hget
    have hwi : IntKind.i64.wrap ((i : Int) + 1) = ((i + 1 : Nat) : Int) := w64 (by omega) (by omega)
    have hcl := cnt_le v i
    by_cases h2 : v i = 2
    · have hc : cnt v (i + 1) = cnt v i + 1 := by simp [cnt, h2]
      have hwc : IntKind.i64.wrap (((w.length + cnt v i : Nat) : Int) + 1) = ((w.length + (cnt v i + 1) : Nat) : Int) := by rw [w64 (by omega) (by omega)]; omega
      have hb : (v i == 2) = true := by simp [h2]
      rw [hb] at f27
      generalize w.length + cnt v i = m at hwc ⊢
      repeat (first | refine NV.seq ?_ | refine NV.blk ?_ | refine V.seq rfl ?_ | refine V.block rfl ?_ | refine V.skip rfl ?_ | refine V.ret rfl ?_ | refine NV.nil ?_ | refine NV.loop ?_ | refine V.exit rfl ?_ | refine XV.seq ?_ | refine XV.loop ?_ | refine XV.hit ?_ | refine XV.pass (by decide) ?_ | refine V.condT rfl (by rfl) ?_ | refine V.condF rfl (by rfl) ?_ | refine V.region tm F.ok rfl (by conv => lhs; simp [b1, stB, qi, hlt, f27, hget, hwi, hwc]) fun _ => ?_ | refine V.regionD tm F.ok rfl (by conv => lhs; simp [b1, stB, qi, hlt, f27, hget, hwi, hwc]) (by conv => lhs; simp) (by rcases hid with e | e | e <;> subst e <;> kernel_rfl) fun _ => ?_)
      exact ⟨⟨i + 1, by omega⟩, by dsimp only; omega, AS.le_of rfl ⟨rfl, rfl, by dsimp only; rw [hc]; rfl, rfl, rfl, rfl, rfl, rfl, rfl, rfl, rfl, trivial⟩ (fun _ => rfl)⟩
    · have hc : cnt v (i + 1) = cnt v i := by simp [cnt, h2]
      have hb : (v i == 2) = false := by simp [h2]
      rw [hb] at f27
      generalize hm : w.length + cnt v i = m
      repeat (first | refine NV.seq ?_ | refine NV.blk ?_ | refine V.seq rfl ?_ | refine V.block rfl ?_ | refine V.skip rfl ?_ | refine V.ret rfl ?_ | refine NV.nil ?_ | refine NV.loop ?_ | refine V.exit rfl ?_ | refine XV.seq ?_ | refine XV.loop ?_ | refine XV.hit ?_ | refine XV.pass (by decide) ?_ | refine V.condT rfl (by rfl) ?_ | refine V.condF rfl (by rfl) ?_ | refine V.region tm F.ok rfl (by conv => lhs; simp [b1, stB, qi, hlt, f27, hget, hwi]) fun _ => ?_ | refine V.regionD tm F.ok rfl (by conv => lhs; simp [b1, stB, qi, hlt, f27, hget, hwi]) (by conv => lhs; simp) (by rcases hid with e | e | e <;> subst e <;> kernel_rfl) fun _ => ?_)
      exact ⟨⟨i + 1, by omega⟩, by dsimp only; omega, AS.le_of rfl ⟨rfl, rfl, by dsimp only; rw [hc, hm]; rfl, rfl, rfl, rfl, rfl, rfl, rfl, rfl, rfl, trivial⟩ (fun _ => rfl)⟩
end Go.Abs.Fi
