/- HostArrives: a process is passed. Conditions: none. -/
import Derived.Test.YtidbfifednannaaFiG
namespace Go.Abs.Fi
open Go Go.Proofs Go.Abs
set_option maxRecDepth 100000
set_option maxHeartbeats 4000000
set_option linter.unusedSimpArgs false
set_option linter.unusedVariables false
attribute [local simp] runL stepA execA_eq skipA run_ret run_fail run_get run_put run_asm num lk st lk_st putA AS.ev ofValue ofFlat mkv splice fieldAddrA buildA fillA runF gdst pickA unOpA extractA resVs resV pack frzT inlT inlV frzV frzVs frzL frz1 newId AV.cellsOf AV.flat AV.flat2 specOf loadA_runR capA copyA copyTo srcA sliceCA slice3A appendZA extA AV.place lenCA clearA clearTo expG expB3 List.zipWith renL fF handB renB AV.ren backF backL idsOf freshIds refsL refsB AV.refs List.range List.range.loop placesA sliceRows rowsOf convertA sliceArrA sliceA bndA nilCheckA arrayAtA mmA lookupA keyOf keyOK findA keyEqA foundA makeMapA mapUpdateA appendA rowsA indexA partA fieldA retE2 frqT frqV frqVs frqL frq1 reachE blkRefs outE nodupE firstE seqO expB2 expF instA nod ha_specs cellish_hv isInl_hv inl2_hv ren_hv refs_hv R_len
theorem ph1 (S : FuncId → SpecFn) (F : HaF S) (L : List Int) (hL : L.length ≤ maxLen) (fs : List Fr) (k pl ps us : Nat) (v : Nat → Nat) (w : List (Nat × Nat)) (id g : Nat) (pre : List (List AV)) (dk : Nat) (h : NL ABlk) (hI : HI L 0 0 ⟨k, pl, ps, us, v, w, id, g, pre, dk, h⟩) (hk60 : ¬ k = 60) : V Try.prog (RetM Try.prog Try.f5 0 (AV.bool true) [])
    (cL (cL (cL (cR (cL (cL (cR (cL (cR (cR (cR (cR (cR (cR (cR (cR (cR (codeOf Try.f5))))))))))))))))))
    (Fr.loop (fun σ' => ∃ q : HS, q.k = k ∧ HI L 1 0 q ∧ AS.le (HJ q) σ') :: fs)
    ⟨168, [(49, AV.bool true), (48, AV.int IntKind.i64 (k : Nat)), (13, AV.int IntKind.i64 (k : Nat)), (12, AV.sl id g pre.length w.length), (11, AV.int IntKind.i64 (us : Nat)), (10, AV.int IntKind.i64 (ps : Nat)), (9, AV.int IntKind.i64 (pl : Nat)), (5, AV.sl 1000 4 0 4), (4, nod), (3, AV.ptr 416 1 0 0)], h⟩ := by
  have hk := hI.k
  have hpl := hI.pl
  have hps := hI.ps
  have hdk := hI.dk
  have hus := hI.us
  have b1 := hI.b1
  have b2 := hI.b2
  have b3 := hI.b3
  dsimp only [HJ] at hk hpl hps hdk hus b1 b2 b3 ⊢
  have qk : (pl : Int) < 4 := by omega
  obtain ⟨n1, n2, n3, n4, n5⟩ : id ≠ 1000 ∧ id ≠ 416 ∧ id ≠ 256 ∧ id ≠ 288 ∧ id ≠ 304 := by
    have := hI.hid
    dsimp only at this
    omega
  have hid : id = 2000 ∨ id = 1232 ∨ id = 2112 := hI.hid
  have n1' := n1.symm
  have n2' := n2.symm
  have n3' := n3.symm
  have n4' := n4.symm
  have n5' := n5.symm
  have hex : k < 30 ∨ ¬ k < 30 := by omega
  rcases hex with h30 | h30
  · have q30 : (k : Int) < 30 := by omega
    have hn1 := nextS_eq L dk 3 hL hdk (by omega) (by omega)
    have hdk1 : nk L dk ≤ L.length := nk_le hdk
    obtain hz | hz : (nx L dk 3 == 0) = false ∨ (nx L dk 3 == 0) = true := by cases (nx L dk 3 == 0) <;> simp
    · repeat (first | refine NV.seq ?_ | refine NV.blk ?_ | refine V.seq rfl ?_ | refine V.block rfl ?_ | refine V.skip rfl ?_ | refine V.ret rfl ?_ | refine NV.nil ?_ | refine NV.loop ?_ | refine V.exit rfl ?_ | refine XV.seq ?_ | refine XV.loop ?_ | refine XV.hit ?_ | refine XV.pass (by decide) ?_ | refine V.condT rfl (by rfl) ?_ | refine V.condF rfl (by rfl) ?_ | refine V.region tm F.ok rfl (by conv => lhs; simp [q30, b1, b2, b3, hn1, hz, dk1]) fun _ => ?_ | refine V.regionD tm F.ok rfl (by conv => lhs; simp [q30, b1, b2, b3, hn1, hz, dk1]) (by conv => lhs; simp) (by rcases hid with e | e | e <;> subst e <;> kernel_rfl) fun _ => ?_)
      exact ⟨⟨k, pl, ps, us, v, w, id, g, pre, nk L dk, _⟩, rfl, ⟨by dsimp only; omega, hpl, by dsimp only; omega, hdk1, hus, hI.hw, hI.hid, by simp [lk_st, b1], by simp [lk_st, dk1], by simp [lk_st, n2, n2', b3]⟩, AS.le_of rfl ⟨rfl, rfl, rfl, rfl, rfl, rfl, rfl, rfl, trivial⟩ (fun _ => rfl)⟩
    · have hn2 := nextS_eq L (nk L dk) 4 hL hdk1 (by omega) (by omega)
      have hdk2 : nk L (nk L dk) ≤ L.length := nk_le hdk1
      have t0 := nx_nonneg L (nk L dk) (n := 4) (by omega)
      have t4 := nx_lt L (nk L dk) (n := 4) (by omega)
      obtain ⟨t, ht⟩ : ∃ t : Nat, nx L (nk L dk) 4 = t := ⟨(nx L (nk L dk) 4).toNat, by omega⟩
      have ht4 : t < 4 := by omega
      rw [ht] at hn2
      have hget := R_getE v (k := 4) (n := pl)
      simp only [stc] at hget
      have hwp : IntKind.i64.wrap ((ps : Int) + 1) = ((ps + 1 : Nat) : Int) := w64 (by omega) (by omega)
      cases hI.hw with
      | «at» h1 h2 h3 h4 =>
        dsimp only at h1 h2 h3 h4
        subst h1
        by_cases htp : t = pl
        · subst htp
          have f25 := F.f25b t hpl
          have hset := R_set v (n := t) (y := 2) 4
          rw [h2] at hget
          simp only [stc, nod] at f25 hset
          repeat (first | refine NV.seq ?_ | refine NV.blk ?_ | refine V.seq rfl ?_ | refine V.block rfl ?_ | refine V.skip rfl ?_ | refine V.ret rfl ?_ | refine NV.nil ?_ | refine NV.loop ?_ | refine V.exit rfl ?_ | refine XV.seq ?_ | refine XV.loop ?_ | refine XV.hit ?_ | refine XV.pass (by decide) ?_ | refine V.condT rfl (by rfl) ?_ | refine V.condF rfl (by rfl) ?_ | refine V.region tm F.ok rfl (by conv => lhs; simp [q30, b1, b2, b3, hn1, hn2, hz, dk1, stB, hpl, qk, hget, hset, f25]) fun _ => ?_ | refine V.regionD tm F.ok rfl (by conv => lhs; simp [q30, b1, b2, b3, hn1, hn2, hz, dk1, stB, hpl, qk, hget, hset, f25]) (by conv => lhs; simp) (by rcases hid with e | e | e <;> subst e <;> kernel_rfl) fun _ => ?_)
          refine V.caps (t := 12) rfl (by simp [lk_st, n1, n2, n3, n4, n5, n1', n2', n3', n4', n5', b3]; rfl) rfl fun cap hc1 hc2 => ?_
          repeat (first | refine NV.seq ?_ | refine NV.blk ?_ | refine V.seq rfl ?_ | refine V.block rfl ?_ | refine V.skip rfl ?_ | refine V.ret rfl ?_ | refine NV.nil ?_ | refine NV.loop ?_ | refine V.exit rfl ?_ | refine XV.seq ?_ | refine XV.loop ?_ | refine XV.hit ?_ | refine XV.pass (by decide) ?_ | refine V.condT rfl (by rfl) ?_ | refine V.condF rfl (by rfl) ?_ | refine V.region tm F.ok rfl (by conv => lhs; simp [q30, b1, b2, b3, hn1, hn2, hz, dk1, stB, wyB, hpl, qk, hget, hset, f25, hc1, hc2, hwp, n1, n2, n3, n4, n5, n1', n2', n3', n4', n5']) fun _ => ?_ | refine V.regionD tm F.ok rfl (by conv => lhs; simp [q30, b1, b2, b3, hn1, hn2, hz, dk1, stB, wyB, hpl, qk, hget, hset, f25, hc1, hc2, hwp, n1, n2, n3, n4, n5, n1', n2', n3', n4', n5']) (by conv => lhs; simp) (by rcases hid with e | e | e <;> subst e <;> kernel_rfl) fun _ => ?_)
          exact ⟨⟨k, t, ps + 1, us, upv v t 2, [], id, g, pre, nk L (nk L dk), _⟩, rfl, HI.of (by omega) (by omega) (by omega) hdk2 (by omega) (.at rfl (by simp [upv]) (fun n hn hne => by simp only [upv, if_neg hne]; exact h3 n hn hne) (by omega)) hid (by simp [lk_st, n1, n2, n3, n4, n5, n1', n2', n3', n4', n5', b1, stB]) (by simp [lk_st, n1, n2, n3, n4, n5, n1', n2', n3', n4', n5', dk1]) (by simp [lk_st, n1, n2, n3, n4, n5, n1', n2', n3', n4', n5', b3, wyB, splice, wr]), AS.le_of' rfl ⟨⟨_, rfl, AV.weaker_refl _⟩, ⟨_, rfl, weaker_slc _ _ _ _ _⟩, ⟨_, rfl, AV.weaker_refl _⟩, ⟨_, rfl, AV.weaker_refl _⟩, ⟨_, rfl, AV.weaker_refl _⟩, ⟨_, rfl, AV.weaker_refl _⟩, ⟨_, rfl, AV.weaker_refl _⟩, ⟨_, rfl, AV.weaker_refl _⟩, trivial⟩ (fun _ => rfl)⟩
        · have htp' : pl ≠ t := fun e => htp e.symm
          have f25 := F.f25c pl t hpl ht4 htp'
          have hset := R_set v (n := pl) (y := 1) 4
          rw [h2] at hget
          simp only [stc, nod] at f25 hset
          have hHo : Hosted k t (ps + 1) us (upv v pl 1) [(pl, t)] 0 := .way pl t rfl ht4 (fun n hn => by
            by_cases e : n = pl
            · simp [upv, e]
            · simp only [upv, if_neg e]; exact h3 n hn e) (by simp; omega) (fun h => absurd h (by omega)) (by omega)
          repeat (first | refine NV.seq ?_ | refine NV.blk ?_ | refine V.seq rfl ?_ | refine V.block rfl ?_ | refine V.skip rfl ?_ | refine V.ret rfl ?_ | refine NV.nil ?_ | refine NV.loop ?_ | refine V.exit rfl ?_ | refine XV.seq ?_ | refine XV.loop ?_ | refine XV.hit ?_ | refine XV.pass (by decide) ?_ | refine V.condT rfl (by rfl) ?_ | refine V.condF rfl (by rfl) ?_ | refine V.region tm F.ok rfl (by conv => lhs; simp [q30, b1, b2, b3, hn1, hn2, hz, dk1, stB, hpl, qk, hget, hset, f25]) fun _ => ?_ | refine V.regionD tm F.ok rfl (by conv => lhs; simp [q30, b1, b2, b3, hn1, hn2, hz, dk1, stB, hpl, qk, hget, hset, f25]) (by conv => lhs; simp) (by rcases hid with e | e | e <;> subst e <;> kernel_rfl) fun _ => ?_)
          refine V.caps (t := 12) rfl (by simp [lk_st, n1, n2, n3, n4, n5, n1', n2', n3', n4', n5', b3]; rfl) rfl fun cap hc1 hc2 => ?_
          by_cases hc3 : cap = 0
          · subst hc3
            repeat (first | refine NV.seq ?_ | refine NV.blk ?_ | refine V.seq rfl ?_ | refine V.block rfl ?_ | refine V.skip rfl ?_ | refine V.ret rfl ?_ | refine NV.nil ?_ | refine NV.loop ?_ | refine V.exit rfl ?_ | refine XV.seq ?_ | refine XV.loop ?_ | refine XV.hit ?_ | refine XV.pass (by decide) ?_ | refine V.condT rfl (by rfl) ?_ | refine V.condF rfl (by rfl) ?_ | refine V.region tm F.ok rfl (by conv => lhs; simp [q30, b1, b2, b3, hn1, hn2, hz, dk1, stB, wyB, hpl, qk, hget, hset, f25, hc1, hc2, hwp, n1, n2, n3, n4, n5, n1', n2', n3', n4', n5', maxLen]) fun _ => ?_ | refine V.regionD tm F.ok rfl (by conv => lhs; simp [q30, b1, b2, b3, hn1, hn2, hz, dk1, stB, wyB, hpl, qk, hget, hset, f25, hc1, hc2, hwp, n1, n2, n3, n4, n5, n1', n2', n3', n4', n5', maxLen]) (by conv => lhs; simp) (by rcases hid with e | e | e <;> subst e <;> kernel_rfl) fun _ => ?_)
            exact ⟨⟨k, t, ps + 1, us, upv v pl 1, [(pl, t)], 1232, ((lk h 1232).getD {}).gen + 1, [], nk L (nk L dk), _⟩, rfl, HI.of (by omega) (by omega) (by omega) hdk2 (by omega) hHo (by omega) (by simp [lk_st, n1, n2, n3, n4, n5, n1', n2', n3', n4', n5', b1, stB]) (by simp [lk_st, n1, n2, n3, n4, n5, n1', n2', n3', n4', n5', dk1]) (by simp [lk_st, n1, n2, n3, n4, n5, n1', n2', n3', n4', n5', wyB, wr]), AS.le_of' rfl ⟨⟨_, rfl, AV.weaker_refl _⟩, ⟨_, rfl, AV.weaker_refl _⟩, ⟨_, rfl, AV.weaker_refl _⟩, ⟨_, rfl, AV.weaker_refl _⟩, ⟨_, rfl, AV.weaker_refl _⟩, ⟨_, rfl, AV.weaker_refl _⟩, ⟨_, rfl, AV.weaker_refl _⟩, ⟨_, rfl, AV.weaker_refl _⟩, trivial⟩ (fun _ => rfl)⟩
          · have hc4 : 1 ≤ cap := by omega
            repeat (first | refine NV.seq ?_ | refine NV.blk ?_ | refine V.seq rfl ?_ | refine V.block rfl ?_ | refine V.skip rfl ?_ | refine V.ret rfl ?_ | refine NV.nil ?_ | refine NV.loop ?_ | refine V.exit rfl ?_ | refine XV.seq ?_ | refine XV.loop ?_ | refine XV.hit ?_ | refine XV.pass (by decide) ?_ | refine V.condT rfl (by rfl) ?_ | refine V.condF rfl (by rfl) ?_ | refine V.region tm F.ok rfl (by conv => lhs; simp [q30, b1, b2, b3, hn1, hn2, hz, dk1, stB, wyB, hpl, qk, hget, hset, f25, hc1, hc2, hwp, n1, n2, n3, n4, n5, n1', n2', n3', n4', n5', hc4]) fun _ => ?_ | refine V.regionD tm F.ok rfl (by conv => lhs; simp [q30, b1, b2, b3, hn1, hn2, hz, dk1, stB, wyB, hpl, qk, hget, hset, f25, hc1, hc2, hwp, n1, n2, n3, n4, n5, n1', n2', n3', n4', n5', hc4]) (by conv => lhs; simp) (by rcases hid with e | e | e <;> subst e <;> kernel_rfl) fun _ => ?_)
            exact ⟨⟨k, t, ps + 1, us, upv v pl 1, [(pl, t)], id, g, pre, nk L (nk L dk), _⟩, rfl, HI.of (by omega) (by omega) (by omega) hdk2 (by omega) hHo hid (by simp [lk_st, n1, n2, n3, n4, n5, n1', n2', n3', n4', n5', b1, stB]) (by simp [lk_st, n1, n2, n3, n4, n5, n1', n2', n3', n4', n5', dk1]) (by simp [lk_st, n1, n2, n3, n4, n5, n1', n2', n3', n4', n5', b3, wyB, splice_end, wr]), AS.le_of' rfl ⟨⟨_, rfl, AV.weaker_refl _⟩, ⟨_, rfl, weaker_slc _ _ _ _ _⟩, ⟨_, rfl, AV.weaker_refl _⟩, ⟨_, rfl, AV.weaker_refl _⟩, ⟨_, rfl, AV.weaker_refl _⟩, ⟨_, rfl, AV.weaker_refl _⟩, ⟨_, rfl, AV.weaker_refl _⟩, ⟨_, rfl, AV.weaker_refl _⟩, trivial⟩ (fun _ => rfl)⟩
      | way f t0 h1 ht0 h3 h4 h5 h6 =>
        dsimp only at h1 h3 h4 h5 h6
        subst h1
        have htk : List.take (pre.length + 1) (pre ++ [hmsg f t0]) = pre ++ [hmsg f t0] := List.take_of_length_le (by simp)
        have f25 := F.f25a pl t (v pl) (h3 pl hpl)
        have hset := R_set v (n := pl) (y := v pl) 4
        simp only [stc, nod] at f25 hset
        repeat (first | refine NV.seq ?_ | refine NV.blk ?_ | refine V.seq rfl ?_ | refine V.block rfl ?_ | refine V.skip rfl ?_ | refine V.ret rfl ?_ | refine NV.nil ?_ | refine NV.loop ?_ | refine V.exit rfl ?_ | refine XV.seq ?_ | refine XV.loop ?_ | refine XV.hit ?_ | refine XV.pass (by decide) ?_ | refine V.condT rfl (by rfl) ?_ | refine V.condF rfl (by rfl) ?_ | refine V.region tm F.ok rfl (by conv => lhs; simp [q30, b1, b2, b3, hn1, hn2, hz, dk1, stB, hpl, qk, hget, hset, f25]) fun _ => ?_ | refine V.regionD tm F.ok rfl (by conv => lhs; simp [q30, b1, b2, b3, hn1, hn2, hz, dk1, stB, hpl, qk, hget, hset, f25]) (by conv => lhs; simp) (by rcases hid with e | e | e <;> subst e <;> kernel_rfl) fun _ => ?_)
        refine V.caps (t := 12) rfl (by simp [lk_st, n1, n2, n3, n4, n5, n1', n2', n3', n4', n5', b3]; rfl) rfl fun cap hc1 hc2 => ?_
        have hc1 : 1 ≤ cap := hc1
        repeat (first | refine NV.seq ?_ | refine NV.blk ?_ | refine V.seq rfl ?_ | refine V.block rfl ?_ | refine V.skip rfl ?_ | refine V.ret rfl ?_ | refine NV.nil ?_ | refine NV.loop ?_ | refine V.exit rfl ?_ | refine XV.seq ?_ | refine XV.loop ?_ | refine XV.hit ?_ | refine XV.pass (by decide) ?_ | refine V.condT rfl (by rfl) ?_ | refine V.condF rfl (by rfl) ?_ | refine V.region tm F.ok rfl (by conv => lhs; simp [q30, b1, b2, b3, hn1, hn2, hz, dk1, stB, wyB, wr, htk, hpl, qk, hget, hset, f25, hc1, hc2, hwp, n1, n2, n3, n4, n5, n1', n2', n3', n4', n5']) fun _ => ?_ | refine V.regionD tm F.ok rfl (by conv => lhs; simp [q30, b1, b2, b3, hn1, hn2, hz, dk1, stB, wyB, wr, htk, hpl, qk, hget, hset, f25, hc1, hc2, hwp, n1, n2, n3, n4, n5, n1', n2', n3', n4', n5']) (by conv => lhs; simp) (by rcases hid with e | e | e <;> subst e <;> kernel_rfl) fun _ => ?_)
        have hHo : Hosted k t (ps + 1) us (upv v pl (v pl)) [(f, t0)] 0 := .way f t0 rfl ht0 (fun n hn => by
          by_cases e : n = pl
          · subst e; simp only [upv, if_true]; exact h3 n hn
          · simp only [upv, if_neg e]; exact h3 n hn) (by split <;> split at h4 <;> omega) (fun h => absurd h (by omega)) (by omega)
        exact ⟨⟨k, t, ps + 1, us, upv v pl (v pl), [(f, t0)], id, g, pre, nk L (nk L dk), _⟩, rfl, HI.of (by omega) (by omega) (by omega) hdk2 (by omega) hHo hid (by simp [lk_st, n1, n2, n3, n4, n5, n1', n2', n3', n4', n5', b1, stB]) (by simp [lk_st, n1, n2, n3, n4, n5, n1', n2', n3', n4', n5', dk1]) (by simp [lk_st, n1, n2, n3, n4, n5, n1', n2', n3', n4', n5', b3, wyB, splice, wr, htk]), AS.le_of' rfl ⟨⟨_, rfl, AV.weaker_refl _⟩, ⟨_, rfl, weaker_slc _ _ _ _ _⟩, ⟨_, rfl, AV.weaker_refl _⟩, ⟨_, rfl, AV.weaker_refl _⟩, ⟨_, rfl, AV.weaker_refl _⟩, ⟨_, rfl, AV.weaker_refl _⟩, ⟨_, rfl, AV.weaker_refl _⟩, ⟨_, rfl, AV.weaker_refl _⟩, trivial⟩ (fun _ => rfl)⟩
  · have q30 : ¬ (k : Int) < 30 := by omega
    repeat (first | refine NV.seq ?_ | refine NV.blk ?_ | refine V.seq rfl ?_ | refine V.block rfl ?_ | refine V.skip rfl ?_ | refine V.ret rfl ?_ | refine NV.nil ?_ | refine NV.loop ?_ | refine V.exit rfl ?_ | refine XV.seq ?_ | refine XV.loop ?_ | refine XV.hit ?_ | refine XV.pass (by decide) ?_ | refine V.condT rfl (by rfl) ?_ | refine V.condF rfl (by rfl) ?_ | refine V.region tm F.ok rfl (by conv => lhs; simp [q30, b1, b2, b3]) fun _ => ?_ | refine V.regionD tm F.ok rfl (by conv => lhs; simp [q30, b1, b2, b3]) (by conv => lhs; simp) (by rcases hid with e | e | e <;> subst e <;> kernel_rfl) fun _ => ?_)
    exact ⟨⟨k, pl, ps, us, v, w, id, g, pre, dk, _⟩, rfl, ⟨by dsimp only; omega, hpl, by dsimp only; omega, hdk, hus, hI.hw, hI.hid, b1, b2, b3⟩, AS.le_of rfl ⟨rfl, rfl, rfl, rfl, rfl, rfl, rfl, rfl, trivial⟩ (fun _ => rfl)⟩
end Go.Abs.Fi
