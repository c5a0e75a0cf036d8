/- What the generator of a block gives. Conditions: none. -/
import Derived.Test.YtldfmgiglcajcaaCpM
import Derived.Test.YtldfmgiglcajcaaAbsV
namespace Go.Abs.Cp
open Go Go.Proofs Go.Abs
set_option maxRecDepth 100000
set_option maxHeartbeats 4000000
set_option linter.unusedSimpArgs false
set_option linter.unusedVariables false
def codeB (code : List Ins) : ABlk := { gen := 0, kind := 2, elem := 31, size := 4, inl := true, rows := code.map Ins.cells }
def BlkP (_ : List UInt8) (r : AV × List ABlk) : Prop := ∃ (code : List Ins) (l : List UInt8), (∀ i ∈ code, able i = true) ∧ code.length ≤ 4 ∧ r = (.sl 1 0 0 code.length, [diceB l, codeB code])
def tabs : List Int := [2, 3, 4, 5, 6, 7, 7, 8, 9, 10, 9, 10, 11, 12, 13, 14, 15, 16, 17, 18, 19, 20, 21, 22, 23, 24, 1]
def tab16 : List Int := [4, 4, 4, 1, 9]
def tab17 : List Int := [2, 2, 1, 6]
def tab23 : List Int := [3, 3, 1, 6]
def tab5 : List Int := [9, 14, 3, 40, 0]
def tabP : List Int := [0, 5, 6]
theorem enE_inj : ∀ x y, encE x = encE y → x = y := fun x y h => by
  simp only [encE, Prod.mk.injEq, List.cons.injEq, true_and, and_true] at h
  exact diceB_inj h
attribute [local simp] runL stepA execA_eq skipA run_ret run_fail run_get run_put run_asm num lk st lk_st putA AS.ev ofValue ofFlat mkv splice fieldAddrA buildA fillA runF gdst pickA unOpA extractA resVs resV pack frzT inlT inlV frzV frzVs frzL frz1 newId AV.cellsOf AV.flat AV.flat2 specOf loadA_runR renL fF handB renB AV.ren backF backL idsOf freshIds refsL refsB AV.refs List.range List.range.loop placesA sliceRows rowsOf convertA sliceArrA sliceA bndA nilCheckA arrayAtA mmA lookupA keyOf keyOK findA keyEqA foundA makeMapA mapUpdateA appendA rowsA indexA partA fieldA retE2 frqT frqV frqVs frqL frq1 reachE blkRefs outE nodupE firstE seqO expB2 expF e_specs diceS_eq' regDS_eq' wordS_eq' reachE blkRefs outE nodupE firstE seqO expB2 expF buildSliceA sliceRows rowsOf maxLen
theorem BlkP_mk {P : Program} {fn : Func} {σ : AS} {x : List UInt8} (code : List Ins) (l : List UInt8) (hc : ∀ i ∈ code, able i = true) (hl : code.length ≤ 4) (h : RetB P fn 1 (.sl 1 0 0 code.length) [{ gen := 0, kind := 2, elem := 56, size := 1, inl := false, rows := [[.list 1 (l.map byte)]] }, codeB code] σ) : ∃ r, BlkP x r ∧ RetB P fn 1 r.1 r.2 σ :=
  ⟨_, ⟨code, l, hc, hl, rfl⟩, h⟩
theorem at0_all {p : Int → Prop} {L : List Int} (h0 : p 0) (hL : ∀ x ∈ L, p x) (n : Int) : p (at0 L n) := by
  unfold at0
  rw [List.getD_eq_getElem?_getD]
  cases h : L[n.toNat]? with
  | none => exact h0
  | some x => exact hL x (List.mem_of_getElem? h)
/-- Behind the choice: two numbers and what is left of the dice. -/
def MidB (o : Int) (σ : AS) : Prop := ∃ (v1 v2 : Int) (l : List UInt8) (h : NL ABlk), AS.le ⟨99, [(0, .ptr 0 0 0 0), (3, .int .i64 o), (4, .int .i64 v1), (5, .int .i64 v2)], h⟩ σ ∧ lk h 0 = some (diceB l)
theorem block_ok : ∃ S, FnC Try.prog 26 S ∧ ∀ x, ∃ r, S (encE x).1 (encE x).2 = some r ∧ BlkP x r := by
  refine FnC.existsB 26 (fn := Try.f26) Try.func26 rfl (by kernel_rfl) (fun x b hb => by simp [encE] at hb; rw [hb]; rfl) enE_inj (fun x => ⟨_, ⟨[], [], by simp, by simp, rfl⟩⟩) fun l => ?_
  change W _ (fun σ => ∃ r, BlkP l r ∧ RetB _ _ 1 r.1 r.2 σ) _ _ ⟨99, [(0, .ptr 0 0 0 0)], [(0, diceB l)]⟩
  have h0 := dn_nonneg l 27
  have h1 := dn_lt l (n := 27) (by omega)
  have ht := @get_tab tabs (dn l 27)
  simp only [tabs, List.map_cons, List.map_nil] at ht
  repeat (first | refine N.seq ?_ | refine N.blk ?_ | refine W.seqR rfl rfl ?_ | refine W.skip rfl ?_ | refine W.ret rfl ?_ | refine N.nil ?_ | refine N.loop ?_ | refine W.exit rfl ?_ | refine X.seq ?_ | refine X.loop ?_ | refine X.hit ?_ | refine X.pass (by decide) ?_ | refine W.region tm e_specs_ok rfl (by conv => lhs; simp [diceB, h0, h1, ht]) fun _ => ?_ | refine W.regionD tm e_specs_ok rfl (by conv => lhs; simp [diceB, h0, h1, ht]) (by conv => lhs; simp) (by kernel_rfl) fun _ => ?_)
  generalize at0 [2, 3, 4, 5, 6, 7, 7, 8, 9, 10, 9, 10, 11, 12, 13, 14, 15, 16, 17, 18, 19, 20, 21, 22, 23, 24, 1] (dn l 27) = o
  clear ht
  refine W.cut rfl (MidB o) ?_ ?_
  · repeat (first | refine N.seq ?_ | refine N.blk ?_ | refine W.seq rfl ?_ | refine W.block rfl ?_ | refine W.skip rfl ?_ | refine W.ret rfl ?_ | refine N.nil ?_ | refine N.loop ?_ | refine W.exit rfl ?_ | refine X.seq ?_ | refine X.loop ?_ | refine X.hit ?_ | refine X.pass (by decide) ?_ | refine W.condT rfl (by rfl) ?_ | refine W.condF rfl (by rfl) ?_ | refine W.region tm e_specs_ok rfl (by conv => lhs; simp) fun _ => ?_ | refine W.regionD tm e_specs_ok rfl (by conv => lhs; simp) (by conv => lhs; simp) (by kernel_rfl) fun _ => ?_)
    refine W.cond rfl (by rfl) (fun h7 => ?_) (fun h7 => ?_)
    · repeat (first | refine N.seq ?_ | refine N.blk ?_ | refine W.seq rfl ?_ | refine W.block rfl ?_ | refine W.skip rfl ?_ | refine W.ret rfl ?_ | refine N.nil ?_ | refine N.loop ?_ | refine W.exit rfl ?_ | refine X.seq ?_ | refine X.loop ?_ | refine X.hit ?_ | refine X.pass (by decide) ?_ | refine W.condT rfl (by rfl) ?_ | refine W.condF rfl (by rfl) ?_ | refine W.region tm e_specs_ok rfl (by conv => lhs; simp) fun _ => ?_ | refine W.regionD tm e_specs_ok rfl (by conv => lhs; simp) (by conv => lhs; simp) (by kernel_rfl) fun _ => ?_)
      exact ⟨_, _, _, _, AS.le_of rfl ⟨rfl, rfl, rfl, rfl, trivial⟩ (fun _ => rfl), rfl⟩
    · repeat (first | refine N.seq ?_ | refine N.blk ?_ | refine W.seq rfl ?_ | refine W.block rfl ?_ | refine W.skip rfl ?_ | refine W.ret rfl ?_ | refine N.nil ?_ | refine N.loop ?_ | refine W.exit rfl ?_ | refine X.seq ?_ | refine X.loop ?_ | refine X.hit ?_ | refine X.pass (by decide) ?_ | refine W.condT rfl (by rfl) ?_ | refine W.condF rfl (by rfl) ?_ | refine W.region tm e_specs_ok rfl (by conv => lhs; simp [h7]) fun _ => ?_ | refine W.regionD tm e_specs_ok rfl (by conv => lhs; simp [h7]) (by conv => lhs; simp) (by kernel_rfl) fun _ => ?_)
      refine W.cond rfl (by rfl) (fun h16 => ?_) (fun h16 => ?_)
      · have a0 := dn_nonneg (dl (dl (dl l 27) 4) 4) 5
        have a1 := dn_lt (dl (dl (dl l 27) 4) 4) (n := 5) (by omega)
        have at' := @get_tab tab16 (dn (dl (dl (dl l 27) 4) 4) 5)
        simp only [tab16, List.map_cons, List.map_nil] at at'
        repeat (first | refine N.seq ?_ | refine N.blk ?_ | refine W.seq rfl ?_ | refine W.block rfl ?_ | refine W.skip rfl ?_ | refine W.ret rfl ?_ | refine N.nil ?_ | refine N.loop ?_ | refine W.exit rfl ?_ | refine X.seq ?_ | refine X.loop ?_ | refine X.hit ?_ | refine X.pass (by decide) ?_ | refine W.condT rfl (by rfl) ?_ | refine W.condF rfl (by rfl) ?_ | refine W.region tm e_specs_ok rfl (by conv => lhs; simp [a0, a1, at']) fun _ => ?_ | refine W.regionD tm e_specs_ok rfl (by conv => lhs; simp [a0, a1, at']) (by conv => lhs; simp) (by kernel_rfl) fun _ => ?_)
        exact ⟨_, _, _, _, AS.le_of rfl ⟨rfl, rfl, rfl, rfl, trivial⟩ (fun _ => rfl), rfl⟩
      · repeat (first | refine N.seq ?_ | refine N.blk ?_ | refine W.seq rfl ?_ | refine W.block rfl ?_ | refine W.skip rfl ?_ | refine W.ret rfl ?_ | refine N.nil ?_ | refine N.loop ?_ | refine W.exit rfl ?_ | refine X.seq ?_ | refine X.loop ?_ | refine X.hit ?_ | refine X.pass (by decide) ?_ | refine W.condT rfl (by rfl) ?_ | refine W.condF rfl (by rfl) ?_ | refine W.region tm e_specs_ok rfl (by conv => lhs; simp [h16]) fun _ => ?_ | refine W.regionD tm e_specs_ok rfl (by conv => lhs; simp [h16]) (by conv => lhs; simp) (by kernel_rfl) fun _ => ?_)
        refine W.cond rfl (by rfl) (fun h17 => ?_) (fun h17 => ?_)
        · have a0 := dn_nonneg (dl (dl (dl l 27) 4) 4) 4
          have a1 := dn_lt (dl (dl (dl l 27) 4) 4) (n := 4) (by omega)
          have at' := @get_tab tab17 (dn (dl (dl (dl l 27) 4) 4) 4)
          simp only [tab17, List.map_cons, List.map_nil] at at'
          repeat (first | refine N.seq ?_ | refine N.blk ?_ | refine W.seq rfl ?_ | refine W.block rfl ?_ | refine W.skip rfl ?_ | refine W.ret rfl ?_ | refine N.nil ?_ | refine N.loop ?_ | refine W.exit rfl ?_ | refine X.seq ?_ | refine X.loop ?_ | refine X.hit ?_ | refine X.pass (by decide) ?_ | refine W.condT rfl (by rfl) ?_ | refine W.condF rfl (by rfl) ?_ | refine W.region tm e_specs_ok rfl (by conv => lhs; simp [a0, a1, at']) fun _ => ?_ | refine W.regionD tm e_specs_ok rfl (by conv => lhs; simp [a0, a1, at']) (by conv => lhs; simp) (by kernel_rfl) fun _ => ?_)
          exact ⟨_, _, _, _, AS.le_of rfl ⟨rfl, rfl, rfl, rfl, trivial⟩ (fun _ => rfl), rfl⟩
        · repeat (first | refine N.seq ?_ | refine N.blk ?_ | refine W.seq rfl ?_ | refine W.block rfl ?_ | refine W.skip rfl ?_ | refine W.ret rfl ?_ | refine N.nil ?_ | refine N.loop ?_ | refine W.exit rfl ?_ | refine X.seq ?_ | refine X.loop ?_ | refine X.hit ?_ | refine X.pass (by decide) ?_ | refine W.condT rfl (by rfl) ?_ | refine W.condF rfl (by rfl) ?_ | refine W.region tm e_specs_ok rfl (by conv => lhs; simp [h17]) fun _ => ?_ | refine W.regionD tm e_specs_ok rfl (by conv => lhs; simp [h17]) (by conv => lhs; simp) (by kernel_rfl) fun _ => ?_)
          refine W.cond rfl (by rfl) (fun h23 => ?_) (fun h23 => ?_)
          · have a0 := dn_nonneg (dl (dl (dl l 27) 4) 4) 4
            have a1 := dn_lt (dl (dl (dl l 27) 4) 4) (n := 4) (by omega)
            have at' := @get_tab tab23 (dn (dl (dl (dl l 27) 4) 4) 4)
            simp only [tab23, List.map_cons, List.map_nil] at at'
            repeat (first | refine N.seq ?_ | refine N.blk ?_ | refine W.seq rfl ?_ | refine W.block rfl ?_ | refine W.skip rfl ?_ | refine W.ret rfl ?_ | refine N.nil ?_ | refine N.loop ?_ | refine W.exit rfl ?_ | refine X.seq ?_ | refine X.loop ?_ | refine X.hit ?_ | refine X.pass (by decide) ?_ | refine W.condT rfl (by rfl) ?_ | refine W.condF rfl (by rfl) ?_ | refine W.region tm e_specs_ok rfl (by conv => lhs; simp [a0, a1, at']) fun _ => ?_ | refine W.regionD tm e_specs_ok rfl (by conv => lhs; simp [a0, a1, at']) (by conv => lhs; simp) (by kernel_rfl) fun _ => ?_)
            exact ⟨_, _, _, _, AS.le_of rfl ⟨rfl, rfl, rfl, rfl, trivial⟩ (fun _ => rfl), rfl⟩
          · repeat (first | refine N.seq ?_ | refine N.blk ?_ | refine W.seq rfl ?_ | refine W.block rfl ?_ | refine W.skip rfl ?_ | refine W.ret rfl ?_ | refine N.nil ?_ | refine N.loop ?_ | refine W.exit rfl ?_ | refine X.seq ?_ | refine X.loop ?_ | refine X.hit ?_ | refine X.pass (by decide) ?_ | refine W.condT rfl (by rfl) ?_ | refine W.condF rfl (by rfl) ?_ | refine W.region tm e_specs_ok rfl (by conv => lhs; simp [h23]) fun _ => ?_ | refine W.regionD tm e_specs_ok rfl (by conv => lhs; simp [h23]) (by conv => lhs; simp) (by kernel_rfl) fun _ => ?_)
            refine W.cond rfl (by rfl) (fun h24 => ?_) (fun h24 => ?_)
            · repeat (first | refine N.seq ?_ | refine N.blk ?_ | refine W.seq rfl ?_ | refine W.block rfl ?_ | refine W.skip rfl ?_ | refine W.ret rfl ?_ | refine N.nil ?_ | refine N.loop ?_ | refine W.exit rfl ?_ | refine X.seq ?_ | refine X.loop ?_ | refine X.hit ?_ | refine X.pass (by decide) ?_ | refine W.condT rfl (by rfl) ?_ | refine W.condF rfl (by rfl) ?_ | refine W.region tm e_specs_ok rfl (by conv => lhs; simp) fun _ => ?_ | refine W.regionD tm e_specs_ok rfl (by conv => lhs; simp) (by conv => lhs; simp) (by kernel_rfl) fun _ => ?_)
              exact ⟨_, _, _, _, AS.le_of rfl ⟨rfl, rfl, rfl, rfl, trivial⟩ (fun _ => rfl), rfl⟩
            · repeat (first | refine N.seq ?_ | refine N.blk ?_ | refine W.seq rfl ?_ | refine W.block rfl ?_ | refine W.skip rfl ?_ | refine W.ret rfl ?_ | refine N.nil ?_ | refine N.loop ?_ | refine W.exit rfl ?_ | refine X.seq ?_ | refine X.loop ?_ | refine X.hit ?_ | refine X.pass (by decide) ?_ | refine W.condT rfl (by rfl) ?_ | refine W.condF rfl (by rfl) ?_ | refine W.region tm e_specs_ok rfl (by conv => lhs; simp [h24]) fun _ => ?_ | refine W.regionD tm e_specs_ok rfl (by conv => lhs; simp [h24]) (by conv => lhs; simp) (by kernel_rfl) fun _ => ?_)
              refine W.cond rfl (by rfl) (fun h5 => ?_) (fun h5 => ?_)
              · have a0 := dn_nonneg (dl (dl (dl l 27) 4) 4) 5
                have a1 := dn_lt (dl (dl (dl l 27) 4) 4) (n := 5) (by omega)
                have at' := @get_tab tab5 (dn (dl (dl (dl l 27) 4) 4) 5)
                simp only [tab5, List.map_cons, List.map_nil] at at'
                repeat (first | refine N.seq ?_ | refine N.blk ?_ | refine W.seq rfl ?_ | refine W.block rfl ?_ | refine W.skip rfl ?_ | refine W.ret rfl ?_ | refine N.nil ?_ | refine N.loop ?_ | refine W.exit rfl ?_ | refine X.seq ?_ | refine X.loop ?_ | refine X.hit ?_ | refine X.pass (by decide) ?_ | refine W.condT rfl (by rfl) ?_ | refine W.condF rfl (by rfl) ?_ | refine W.region tm e_specs_ok rfl (by conv => lhs; simp [a0, a1, at']) fun _ => ?_ | refine W.regionD tm e_specs_ok rfl (by conv => lhs; simp [a0, a1, at']) (by conv => lhs; simp) (by kernel_rfl) fun _ => ?_)
                exact ⟨_, _, _, _, AS.le_of rfl ⟨rfl, rfl, rfl, rfl, trivial⟩ (fun _ => rfl), rfl⟩
              · rcases Bool.eq_false_or_eq_true (o == 21) with h21 | h21
                · repeat (first | refine N.seq ?_ | refine N.blk ?_ | refine W.seq rfl ?_ | refine W.block rfl ?_ | refine W.skip rfl ?_ | refine W.ret rfl ?_ | refine N.nil ?_ | refine N.loop ?_ | refine W.exit rfl ?_ | refine X.seq ?_ | refine X.loop ?_ | refine X.hit ?_ | refine X.pass (by decide) ?_ | refine W.condT rfl (by rfl) ?_ | refine W.condF rfl (by rfl) ?_ | refine W.region tm e_specs_ok rfl (by conv => lhs; simp [h5, h21]) fun _ => ?_ | refine W.regionD tm e_specs_ok rfl (by conv => lhs; simp [h5, h21]) (by conv => lhs; simp) (by kernel_rfl) fun _ => ?_)
                  exact ⟨_, _, _, _, AS.le_of rfl ⟨rfl, rfl, rfl, rfl, trivial⟩ (fun _ => rfl), rfl⟩
                · rcases Bool.eq_false_or_eq_true (o == 20) with h20 | h20
                  · repeat (first | refine N.seq ?_ | refine N.blk ?_ | refine W.seq rfl ?_ | refine W.block rfl ?_ | refine W.skip rfl ?_ | refine W.ret rfl ?_ | refine N.nil ?_ | refine N.loop ?_ | refine W.exit rfl ?_ | refine X.seq ?_ | refine X.loop ?_ | refine X.hit ?_ | refine X.pass (by decide) ?_ | refine W.condT rfl (by rfl) ?_ | refine W.condF rfl (by rfl) ?_ | refine W.region tm e_specs_ok rfl (by conv => lhs; simp [h5, h21, h20]) fun _ => ?_ | refine W.regionD tm e_specs_ok rfl (by conv => lhs; simp [h5, h21, h20]) (by conv => lhs; simp) (by kernel_rfl) fun _ => ?_)
                    exact ⟨_, _, _, _, AS.le_of rfl ⟨rfl, rfl, rfl, rfl, trivial⟩ (fun _ => rfl), rfl⟩
                  · repeat (first | refine N.seq ?_ | refine N.blk ?_ | refine W.seq rfl ?_ | refine W.block rfl ?_ | refine W.skip rfl ?_ | refine W.ret rfl ?_ | refine N.nil ?_ | refine N.loop ?_ | refine W.exit rfl ?_ | refine X.seq ?_ | refine X.loop ?_ | refine X.hit ?_ | refine X.pass (by decide) ?_ | refine W.condT rfl (by rfl) ?_ | refine W.condF rfl (by rfl) ?_ | refine W.region tm e_specs_ok rfl (by conv => lhs; simp [h5, h21, h20]) fun _ => ?_ | refine W.regionD tm e_specs_ok rfl (by conv => lhs; simp [h5, h21, h20]) (by conv => lhs; simp) (by kernel_rfl) fun _ => ?_)
                    exact ⟨_, _, _, _, AS.le_of rfl ⟨rfl, rfl, rfl, rfl, trivial⟩ (fun _ => rfl), rfl⟩
  · rintro σ' ⟨v1, v2, l', h, hle, hh⟩
    refine W.weak hle ?_
    rw [diceB] at hh
    rcases Bool.eq_false_or_eq_true (o == 5) with h5 | h5
    · obtain rfl : o = 5 := by simpa using h5
      have a0 := dn_nonneg l' 3
      have a1 := dn_lt l' (n := 3) (by omega)
      have at' := @get_tab tabP (dn l' 3)
      simp only [tabP, List.map_cons, List.map_nil] at at'
      repeat (first | refine N.seq ?_ | refine N.blk ?_ | refine W.seq rfl ?_ | refine W.block rfl ?_ | refine W.skip rfl ?_ | refine W.ret rfl ?_ | refine N.nil ?_ | refine N.loop ?_ | refine W.exit rfl ?_ | refine X.seq ?_ | refine X.loop ?_ | refine X.hit ?_ | refine X.pass (by decide) ?_ | refine W.condT rfl (by rfl) ?_ | refine W.condF rfl (by rfl) ?_ | refine W.region tm e_specs_ok rfl (by conv => lhs; simp [hh, a0, a1, at', maxLen]) fun _ => ?_ | refine W.regionD tm e_specs_ok rfl (by conv => lhs; simp [hh, a0, a1, at', maxLen]) (by conv => lhs; simp) (by kernel_rfl) fun _ => ?_)
      refine BlkP_mk [⟨2, 1, at0 [0, 5, 6] (dn l' 3), 0⟩, ⟨1, 2, v2, 0⟩, ⟨12, 5, 0, 0⟩] _ ?_ ?_ (retE2_ok false (by (conv => lhs; simp [hh]) <;> rfl))
      · have hz : reg (at0 [0, 5, 6] (dn l' 3)) = true := at0_all (p := fun x => reg x = true) (by decide) (by decide) _
        simp [able, reg] at hz ⊢; omega
      · simp
    · rcases Bool.eq_false_or_eq_true (o == 3) with h3 | h3
      · obtain rfl : o = 3 := by simpa using h3
        have a0 := dn_nonneg l' 2
        have a1 := dn_lt l' (n := 2) (by omega)
        have wa : IntKind.i64.wrap (5 + dn l' 2) = 5 + dn l' 2 := w64 (by omega) (by omega)
        repeat (first | refine N.seq ?_ | refine N.blk ?_ | refine W.seq rfl ?_ | refine W.block rfl ?_ | refine W.skip rfl ?_ | refine W.ret rfl ?_ | refine N.nil ?_ | refine N.loop ?_ | refine W.exit rfl ?_ | refine X.seq ?_ | refine X.loop ?_ | refine X.hit ?_ | refine X.pass (by decide) ?_ | refine W.condT rfl (by rfl) ?_ | refine W.condF rfl (by rfl) ?_ | refine W.region tm e_specs_ok rfl (by conv => lhs; simp [hh, a0, a1, maxLen, wa]) fun _ => ?_ | refine W.regionD tm e_specs_ok rfl (by conv => lhs; simp [hh, a0, a1, maxLen, wa]) (by conv => lhs; simp) (by kernel_rfl) fun _ => ?_)
        refine BlkP_mk [⟨1, 1, v1, 0⟩, ⟨1, 2, v2, 0⟩, ⟨12, 3, 0, 0⟩, ⟨2, 5 + dn l' 2, 0, 0⟩] _ ?_ ?_ (retE2_ok false (by (conv => lhs; simp [hh]) <;> rfl))
        · have : reg (5 + dn l' 2) = true := by simp only [reg, Bool.and_eq_true, decide_eq_true_eq]; omega
          simp [able, reg]; omega
        · simp
      · rcases Bool.eq_false_or_eq_true (o == 2) with h2 | h2
        · obtain rfl : o = 2 := by simpa using h2
          have a0 := dn_nonneg l' 2
          have a1 := dn_lt l' (n := 2) (by omega)
          have wa : IntKind.i64.wrap (5 + dn l' 2) = 5 + dn l' 2 := w64 (by omega) (by omega)
          repeat (first | refine N.seq ?_ | refine N.blk ?_ | refine W.seq rfl ?_ | refine W.block rfl ?_ | refine W.skip rfl ?_ | refine W.ret rfl ?_ | refine N.nil ?_ | refine N.loop ?_ | refine W.exit rfl ?_ | refine X.seq ?_ | refine X.loop ?_ | refine X.hit ?_ | refine X.pass (by decide) ?_ | refine W.condT rfl (by rfl) ?_ | refine W.condF rfl (by rfl) ?_ | refine W.region tm e_specs_ok rfl (by conv => lhs; simp [hh, a0, a1, maxLen, wa]) fun _ => ?_ | refine W.regionD tm e_specs_ok rfl (by conv => lhs; simp [hh, a0, a1, maxLen, wa]) (by conv => lhs; simp) (by kernel_rfl) fun _ => ?_)
          refine BlkP_mk [⟨1, 1, v1, 0⟩, ⟨1, 2, v2, 0⟩, ⟨12, 2, 0, 0⟩, ⟨2, 5 + dn l' 2, 0, 0⟩] _ ?_ ?_ (retE2_ok false (by (conv => lhs; simp [hh]) <;> rfl))
          · have : reg (5 + dn l' 2) = true := by simp only [reg, Bool.and_eq_true, decide_eq_true_eq]; omega
            simp [able, reg]; omega
          · simp
        · repeat (first | refine N.seq ?_ | refine N.blk ?_ | refine W.seq rfl ?_ | refine W.block rfl ?_ | refine W.skip rfl ?_ | refine W.ret rfl ?_ | refine N.nil ?_ | refine N.loop ?_ | refine W.exit rfl ?_ | refine X.seq ?_ | refine X.loop ?_ | refine X.hit ?_ | refine X.pass (by decide) ?_ | refine W.condT rfl (by rfl) ?_ | refine W.condF rfl (by rfl) ?_ | refine W.region tm e_specs_ok rfl (by conv => lhs; simp [hh, h5, h3, h2, maxLen]) fun _ => ?_ | refine W.regionD tm e_specs_ok rfl (by conv => lhs; simp [hh, h5, h3, h2, maxLen]) (by conv => lhs; simp) (by kernel_rfl) fun _ => ?_)
          refine BlkP_mk [⟨1, 1, v1, 0⟩, ⟨1, 2, v2, 0⟩, ⟨12, o, 0, 0⟩] _ ?_ ?_ (retE2_ok false (by (conv => lhs; simp [hh]) <;> rfl))
          · simp [able, reg]
          · simp
end Go.Abs.Cp
