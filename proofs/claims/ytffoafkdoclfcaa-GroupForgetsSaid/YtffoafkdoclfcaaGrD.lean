/- Putting a talk in. Conditions: none. -/
import Derived.Test.YtffoafkdoclfcaaGrC
namespace Go.Abs.Gr
open Go Go.Proofs Go.Abs
set_option maxRecDepth 100000
set_option maxHeartbeats 4000000
set_option linter.unusedSimpArgs false
set_option linter.unusedVariables false
attribute [local simp] runL stepA execA_eq skipA run_ret run_fail run_get run_put run_asm num lk st lk_st putA AS.ev ofValue ofFlat mkv splice fieldAddrA buildA fillA runF gdst pickA unOpA extractA resVs resV pack frzT inlT inlV frzV frzVs frzL frz1 newId AV.cellsOf AV.flat AV.flat2 specOf loadA_runR capA copyA copyTo srcA sliceCA slice3A appendZA extA AV.place lenCA clearA clearTo expG expB3 List.zipWith renL fF handB renB AV.ren backF backL idsOf freshIds refsL refsB AV.refs List.range List.range.loop placesA sliceRows rowsOf convertA sliceArrA sliceA bndA nilCheckA arrayAtA mmA lookupA keyOf keyOK findA keyEqA foundA makeMapA mapUpdateA appendA rowsA indexA partA fieldA retE2 frqT frqV frqVs frqL frq1 reachE blkRefs outE nodupE firstE seqO expB2 expF 
def InsI := { x : List Tk × Nat × Tk // x.1.length < 200 ∧ x.2.1 ≤ x.1.length }
def encI (x : InsI) : List AV × List ABlk := ([.sl 0 0 0 x.1.1.length, .int .i64 (x.1.2.1 : Nat), .sl 1 0 0 1], [tksB x.1.1, tksB [x.1.2.2]])
theorem encI_inj {β : Type} {f : InsI → β} : ∀ x y, encI x = encI y → f x = f y := fun x y h => by
  obtain ⟨⟨l, i, t⟩, _⟩ := x
  obtain ⟨⟨l', i', t'⟩, _⟩ := y
  simp only [encI, Prod.mk.injEq, List.cons.injEq, AV.int.injEq, true_and, and_true, Int.natCast_inj] at h
  obtain ⟨⟨_, rfl⟩, h1, h2⟩ := h
  obtain rfl := tksB_inj h1
  have := tksB_inj h2
  simp only [List.cons.injEq, and_true] at this
  subst this
  rfl
def ins (l : List Tk) (i : Nat) (t : Tk) : List Tk := l.take i ++ t :: l.drop i
def tksB1 (l : List Tk) : ABlk := { gen := 1, kind := 2, elem := 27, size := 3, inl := true, rows := l.map Tk.cells }
noncomputable def insS : SpecFn := mkS2 encI fun x => (.sl 0 1 0 (x.1.1.length + 1), [tksB1 (ins x.1.1 x.1.2.1 x.1.2.2), tksB [x.1.2.2]])
theorem ovlB47 : ovlB Try.prog 47 = true := by kernel_rfl
theorem ovlT47 : ovlT Try.prog 47 = some (24, 3) := by kernel_rfl
theorem ins_grow {α : Type} {l : List α} {n i : Nat} {t z : α} (hn : l.length = n) (hi : i ≤ l.length) :
    List.take (i + 1) (List.take i l ++ t :: List.replicate (n - i) z) ++ (List.take (n - i) (List.take (n - i) (List.drop i l)) ++ List.drop (i + 1 + (n - i)) (List.take i l ++ t :: List.replicate (n - i) z)) = List.take i l ++ t :: List.drop i l := by
  subst hn
  have h1 : (List.take i l).length = i := by rw [List.length_take]; omega
  have h2 : (List.drop i l).length = l.length - i := List.length_drop
  generalize List.take i l = A at h1 ⊢
  generalize List.drop i l = B at h2 ⊢
  subst h1
  rw [List.take_append, List.drop_append, List.take_of_length_le (Nat.le_succ _), show A.length + 1 - A.length = 1 from by omega, List.take_succ_cons, List.take_zero,
    List.drop_of_length_le (by omega), List.nil_append, show A.length + 1 + (l.length - A.length) - A.length = (l.length - A.length) + 1 from by omega, List.drop_succ_cons, List.drop_of_length_le (by simp),
    List.append_nil, List.take_take, Nat.min_self, List.take_of_length_le (by omega), List.append_assoc]
  rfl
theorem ins_place {α : Type} {l : List α} {i : Nat} {X : List α} (hi : i ≤ l.length) : List.take i (List.take (i + 1) l ++ List.drop i l) ++ X = List.take i l ++ X := by
  congr 1
  rw [List.take_append, List.take_take, Nat.min_eq_left (Nat.le_succ i), show i - (List.take (i + 1) l).length = 0 from by rw [List.length_take]; omega, List.take_zero, List.append_nil]
theorem insert_ok : FnC Try.prog 27 insS := by
  refine FnC.walkMV 27 (fn := Try.f27) Try.func27 rfl (by kernel_rfl) (fun x b hb => by simp [encI] at hb; rcases hb with rfl | rfl <;> rfl) fun x => ?_
  obtain ⟨⟨l, i, t⟩, hl, hi⟩ := x
  dsimp only at hl hi
  change V _ (RetM _ _ 2 _ _) _ _ ⟨95, [(0, .sl 0 0 0 l.length), (1, .int .i64 (i : Nat)), (2, .sl 1 0 0 1)], [(0, tksB l), (1, tksB [t])]⟩
  have hl' : l.length + 1 ≤ 200 := hl
  have hl2 : l.length ≤ 200 := by omega
  by_cases hin : i = l.length
  · subst hin
    repeat (first | refine NV.seq ?_ | refine NV.blk ?_ | refine V.seq rfl ?_ | refine V.block rfl ?_ | refine V.skip rfl ?_ | refine V.ret rfl ?_ | refine NV.nil ?_ | refine NV.loop ?_ | refine V.exit rfl ?_ | refine XV.seq ?_ | refine XV.loop ?_ | refine XV.hit ?_ | refine XV.pass (by decide) ?_ | refine V.condT rfl (by rfl) ?_ | refine V.condF rfl (by rfl) ?_ | refine V.region tm no_specs rfl (by conv => lhs; simp [capL hl', capB hl', maxLen, tksB, capL hl2, capB hl2]) fun _ => ?_ | refine V.regionD tm no_specs rfl (by conv => lhs; simp [capL hl', capB hl', maxLen, tksB, capL hl2, capB hl2]) (by conv => lhs; simp) (by kernel_rfl) fun _ => ?_)
    refine retM2_ok false [0, 1] [1, 0] ?_
    simp [retM2, movedOK, oldOK, frqT, frqV, frqVs, frqL, frq1, expG, expB3, renB, AV.ren, renL, List.range, List.range.loop, resVs, resV, pack, List.zipWith, List.idxOf?, List.findIdx?, List.findIdx?.go, ins, tksB1, tksB]
  · have hlt : i < l.length := by omega
    have e1 : ((i : Int) == (l.length : Int)) = false := by simpa using fun h => hin (by omega)
    refine V.caps (t := 0) rfl rfl rfl fun cap hc1 hc2 => ?_
    have hic : i ≤ cap := by omega
    have hwi : IntKind.i64.wrap ((i : Int) + 1) = ((i + 1 : Nat) : Int) := by rw [show (i : Int) + 1 = ((i + 1 : Nat) : Int) from by omega]; exact w64 (by omega) (by omega)
    have hw : IntKind.i64.wrap ((l.length : Int) + 1) = (l.length : Int) + 1 := w64 (by omega) (by omega)
    have hw2 : IntKind.i64.wrap ((l.length : Int) + 1 - i) = ((l.length + 1 - i : Nat) : Int) := by rw [show (l.length : Int) + 1 - i = ((l.length + 1 - i : Nat) : Int) from by omega]; exact w64 (by omega) (by omega)
    by_cases hcap : cap < l.length + 1
    · have hcap' : (cap : Int) < l.length + 1 := by omega
      have n1 : i + (l.length + 1 - i) = l.length + 1 := by omega
      have n3 : i ≤ l.length + 1 := by omega
      have n4 : 0 < l.length + 1 - i := by omega
      have n5 : min i l.length = i := by omega
      have n6 : List.take (l.length + 1 - i) [t.cells] = [t.cells] := List.take_of_length_le (by simp; omega)
      have n7 : min (l.length + 1 - i) 1 = 1 := by omega
      have n8 : List.drop (i + 1) (List.take i (List.map Tk.cells l) ++ List.replicate (l.length + 1 - i) [AV.int .u64 0, AV.int .u64 0, AV.int .i64 0]) = List.replicate (l.length - i) [AV.int .u64 0, AV.int .u64 0, AV.int .i64 0] := by
        rw [List.drop_append, List.drop_of_length_le (by simp; omega)]
        simp only [List.length_take, List.length_map, n5, List.nil_append, List.drop_replicate]
        congr 1
        omega
      have n9 : l.length ≤ i + (l.length - i) := by omega
      have n10 : (0 : Int) ≤ (i : Int) + 1 := by omega
      repeat (first | refine NV.seq ?_ | refine NV.blk ?_ | refine V.seq rfl ?_ | refine V.block rfl ?_ | refine V.skip rfl ?_ | refine V.ret rfl ?_ | refine NV.nil ?_ | refine NV.loop ?_ | refine V.exit rfl ?_ | refine XV.seq ?_ | refine XV.loop ?_ | refine XV.hit ?_ | refine XV.pass (by decide) ?_ | refine V.condT rfl (by rfl) ?_ | refine V.condF rfl (by rfl) ?_ | refine V.region tm no_specs rfl (by conv => lhs; simp [capL hl', capB hl', maxLen, tksB, capL hl2, capB hl2, e1, hi, hc1, hic, hcap, hcap', hw, hw2, n1, n3, n4, n5, n6, n7, n8, hwi, n9, n10]) fun _ => ?_ | refine V.regionD tm no_specs rfl (by conv => lhs; simp [capL hl', capB hl', maxLen, tksB, capL hl2, capB hl2, e1, hi, hc1, hic, hcap, hcap', hw, hw2, n1, n3, n4, n5, n6, n7, n8, hwi, n9, n10]) (by conv => lhs; simp) (by kernel_rfl) fun _ => ?_)
      refine retM2_ok false [656, 1] [1, 0] ?_
      simp [retM2, movedOK, oldOK, frqT, frqV, frqVs, frqL, frq1, expG, expB3, renB, AV.ren, renL, List.range, List.range.loop, resVs, resV, pack, List.zipWith, List.idxOf?, List.findIdx?, List.findIdx?.go, ins, tksB1, tksB]
      exact ins_grow (by simp) (by simpa using hi)
    · have hcap' : ¬ (cap : Int) < l.length + 1 := by omega
      have hcap2 : l.length + 1 ≤ cap := by omega
      have n3 : i ≤ l.length + 1 := by omega
      have n9 : l.length ≤ i + (l.length - i) := by omega
      have n10 : (0 : Int) ≤ (i : Int) + 1 := by omega
      have hw3 : (0 : Int) ≤ (l.length : Int) + 1 := by omega
      have n12 : i + 1 ≤ l.length := hlt
      have n11 : min (l.length - i) (l.length + 1 - i) = l.length - i := by omega
      have n6 : List.take (l.length + 1 - i) [t.cells] = [t.cells] := List.take_of_length_le (by simp; omega)
      have n7 : min (l.length + 1 - i) 1 = 1 := by omega
      have n13 : List.take (l.length - i) (List.take (l.length - i) (List.drop i (List.map Tk.cells l))) = List.drop i (List.map Tk.cells l) := by
        rw [List.take_take, Nat.min_self, List.take_of_length_le (by simp)]
      have n14 : List.drop (i + 1 + (l.length - i)) (List.map Tk.cells l) = [] := List.drop_of_length_le (by simp; omega)
      have n15 : i ≤ i + 1 + (l.length - i) := by omega
      repeat (first | refine NV.seq ?_ | refine NV.blk ?_ | refine V.seq rfl ?_ | refine V.block rfl ?_ | refine V.skip rfl ?_ | refine NV.nil ?_ | refine NV.loop ?_ | refine V.exit rfl ?_ | refine XV.seq ?_ | refine XV.loop ?_ | refine XV.hit ?_ | refine XV.pass (by decide) ?_ | refine V.condT rfl (by rfl) ?_ | refine V.condF rfl (by rfl) ?_ | refine V.region tm no_specs rfl (by conv => lhs; simp [capL hl', capB hl', maxLen, tksB, capL hl2, capB hl2, e1, hi, hc1, hic, hcap, hcap', hw, hw2, n3, hwi, n9, n10, hcap2, hw3, ovlB47, ovlT47, n11, n12, n6, n7, n13, n14, n15]) fun _ => ?_ | refine V.regionD tm no_specs rfl (by conv => lhs; simp [capL hl', capB hl', maxLen, tksB, capL hl2, capB hl2, e1, hi, hc1, hic, hcap, hcap', hw, hw2, n3, hwi, n9, n10, hcap2, hw3, ovlB47, ovlT47, n11, n12, n6, n7, n13, n14, n15]) (by conv => lhs; simp) (by kernel_rfl) fun _ => ?_)
      refine V.uncap (t := 6) rfl ?_
      repeat (first | refine NV.seq ?_ | refine NV.blk ?_ | refine V.seq rfl ?_ | refine V.block rfl ?_ | refine V.skip rfl ?_ | refine V.ret rfl ?_ | refine NV.nil ?_ | refine NV.loop ?_ | refine V.exit rfl ?_ | refine XV.seq ?_ | refine XV.loop ?_ | refine XV.hit ?_ | refine XV.pass (by decide) ?_ | refine V.condT rfl (by rfl) ?_ | refine V.condF rfl (by rfl) ?_ | refine V.region tm no_specs rfl (by conv => lhs; simp) fun _ => ?_ | refine V.regionD tm no_specs rfl (by conv => lhs; simp) (by conv => lhs; simp) (by kernel_rfl) fun _ => ?_)
      refine retM2_ok false [0, 1] [1, 0] ?_
      simp [retM2, movedOK, oldOK, frqT, frqV, frqVs, frqL, frq1, expG, expB3, renB, AV.ren, renL, List.range, List.range.loop, resVs, resV, pack, List.zipWith, List.idxOf?, List.findIdx?, List.findIdx?.go, ins, tksB1, tksB]
      simpa using ins_place (l := List.map Tk.cells l) (i := i) (X := []) (by simpa using hi)
end Go.Abs.Gr
