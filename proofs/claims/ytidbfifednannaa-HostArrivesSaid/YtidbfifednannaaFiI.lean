/- HostArrives: a message arrives. Conditions: none. -/
import Derived.Test.YtidbfifednannaaFiG
namespace Go.Abs.Fi
open Go Go.Proofs Go.Abs
set_option maxRecDepth 100000
set_option maxHeartbeats 4000000
set_option linter.unusedSimpArgs false
set_option linter.unusedVariables false
attribute [local simp] runL stepA execA_eq skipA run_ret run_fail run_get run_put run_asm num lk st lk_st putA AS.ev ofValue ofFlat mkv splice fieldAddrA buildA fillA runF gdst pickA unOpA extractA resVs resV pack frzT inlT inlV frzV frzVs frzL frz1 newId AV.cellsOf AV.flat AV.flat2 specOf loadA_runR capA copyA copyTo srcA sliceCA slice3A appendZA extA AV.place lenCA clearA clearTo expG expB3 List.zipWith renL fF handB renB AV.ren backF backL idsOf freshIds refsL refsB AV.refs List.range List.range.loop placesA sliceRows rowsOf convertA sliceArrA sliceA bndA nilCheckA arrayAtA mmA lookupA keyOf keyOK findA keyEqA foundA makeMapA mapUpdateA appendA rowsA indexA partA fieldA retE2 frqT frqV frqVs frqL frq1 reachE blkRefs outE nodupE firstE seqO expB2 expF instA nod ha_specs cellish_hv isInl_hv inl2_hv ren_hv refs_hv R_len
theorem take_snoc {α : Type} (l : List α) (x : α) : List.take (l.length + 1) (l ++ [x]) = l ++ [x] := List.take_of_length_le (by simp)
theorem weaker_slc' {id g off off' len len' cap : Nat} (h : off' = off) (h' : len' = len) : AV.weaker (.slc id g off len cap) (.sl id g off' len') := by
  subst h h'
  exact weaker_slc _ _ _ _ _
theorem ph2 (S : FuncId → SpecFn) (F : HaF S) (L : List Int) (hL : L.length ≤ maxLen) (fs : List Fr) (k pl ps us : Nat) (v : Nat → Nat) (w : List (Nat × Nat)) (id g : Nat) (pre : List (List AV)) (dk : Nat) (h : NL ABlk) (hI : HI L 1 0 ⟨k, pl, ps, us, v, w, id, g, pre, dk, h⟩) : V Try.prog (RetM Try.prog Try.f5 0 (AV.bool true) [])
    (cL (cR (cL (cL (cR (cL (cL (cR (cL (cR (cR (cR (cR (cR (cR (cR (cR (cR (codeOf Try.f5)))))))))))))))))))
    (Fr.loop (fun σ' => ∃ q : HS, q.k = k ∧ HI L 1 1 q ∧ AS.le (HJ q) σ') :: fs)
    (HJ ⟨k, pl, ps, us, v, w, id, g, pre, dk, h⟩) := by
  have hk := hI.k
  have hpl := hI.pl
  have hps := hI.ps
  have hdk := hI.dk
  have hus := hI.us
  have b1 := hI.b1
  have b2 := hI.b2
  have b3 := hI.b3
  dsimp only [HJ] at hk hpl hps hdk hus b1 b2 b3 ⊢
  have qk : (pl : Int) < 4 := by omega
  obtain ⟨n1, n2, n3, n4, n5⟩ : id ≠ 1000 ∧ id ≠ 416 ∧ id ≠ 256 ∧ id ≠ 288 ∧ id ≠ 304 := by
    have := hI.hid
    dsimp only at this
    omega
  have hid : id = 2000 ∨ id = 1232 ∨ id = 2112 := hI.hid
  have n1' := n1.symm
  have n2' := n2.symm
  have n3' := n3.symm
  have n4' := n4.symm
  have n5' := n5.symm
  cases hI.hw with
  | «at» h1 h2 h3 h4 =>
    dsimp only at h1 h2 h3 h4
    subst h1
    repeat (first | refine NV.seq ?_ | refine NV.blk ?_ | refine V.seq rfl ?_ | refine V.block rfl ?_ | refine V.skip rfl ?_ | refine V.ret rfl ?_ | refine NV.nil ?_ | refine NV.loop ?_ | refine V.exit rfl ?_ | refine XV.seq ?_ | refine XV.loop ?_ | refine XV.hit ?_ | refine XV.pass (by decide) ?_ | refine V.condT rfl (by rfl) ?_ | refine V.condF rfl (by rfl) ?_ | refine V.region tm F.ok rfl (by conv => lhs; simp [b1, b2, b3, wyB, wr]) fun _ => ?_ | refine V.regionD tm F.ok rfl (by conv => lhs; simp [b1, b2, b3, wyB, wr]) (by conv => lhs; simp) (by rcases hid with e | e | e <;> subst e <;> kernel_rfl) fun _ => ?_)
    exact ⟨⟨k, pl, ps, us, v, [], id, g, pre, dk, _⟩, rfl, HI.of (by omega) (by omega) (by omega) hdk (by omega) (.at rfl h2 h3 h4) hid b1 b2 b3, AS.le_of rfl ⟨rfl, rfl, rfl, rfl, rfl, rfl, rfl, rfl, trivial⟩ (fun _ => rfl)⟩
  | way f t h1 ht h3 h4 h5 h6 =>
    dsimp only at h1 h3 h4 h5 h6
    subst h1
    have qt : (t : Int) < 4 := by omega
    have qt0 : ¬ (t : Int) < 0 := by omega
    have qt3 : ¬ (3 : Int) < t := by omega
    have hget := R_getE v (k := 4) (n := t)
    simp only [stc] at hget
    have hwu : IntKind.i64.wrap ((us : Int) + 1) = ((us + 1 : Nat) : Int) := w64 (by omega) (by omega)
    have hex : k < 30 ∨ ¬ k < 30 := by omega
    rcases hex with h30 | h30
    · have q30 : (k : Int) < 30 := by omega
      have q30n : ¬ (30 : Int) ≤ k := by omega
      have hn1 := nextS_eq L dk 2 hL hdk (by omega) (by omega)
      have hdk1 : nk L dk ≤ L.length := nk_le hdk
      obtain hz | hz : (nx L dk 2 == 0) = false ∨ (nx L dk 2 == 0) = true := by cases (nx L dk 2 == 0) <;> simp
      · repeat (first | refine NV.seq ?_ | refine NV.blk ?_ | refine V.seq rfl ?_ | refine V.block rfl ?_ | refine V.skip rfl ?_ | refine V.ret rfl ?_ | refine NV.nil ?_ | refine NV.loop ?_ | refine V.exit rfl ?_ | refine XV.seq ?_ | refine XV.loop ?_ | refine XV.hit ?_ | refine XV.pass (by decide) ?_ | refine V.condT rfl (by rfl) ?_ | refine V.condF rfl (by rfl) ?_ | refine V.region tm F.ok rfl (by conv => lhs; simp [q30n, b1, b2, b3, wyB, wr, hn1, hz, dk1]) fun _ => ?_ | refine V.regionD tm F.ok rfl (by conv => lhs; simp [q30n, b1, b2, b3, wyB, wr, hn1, hz, dk1]) (by conv => lhs; simp) (by rcases hid with e | e | e <;> subst e <;> kernel_rfl) fun _ => ?_)
        exact ⟨⟨k, pl, ps, us, v, [(f, t)], id, g, pre, nk L dk, _⟩, rfl, HI.of (by omega) (by omega) (by omega) hdk1 (by omega) (.way f t rfl ht h3 h4 (fun h => absurd h (by omega)) (by omega)) hid (by simp [lk_st, b1]) (by simp [lk_st, dk1]) (by simp [lk_st, n2, n2', b3]), AS.le_of rfl ⟨rfl, rfl, rfl, rfl, rfl, rfl, rfl, rfl, trivial⟩ (fun _ => rfl)⟩
      · skip
        by_cases htp : t = pl
        · subst htp
          have f26 := F.f26a t (v t) ht (h3 t ht)
          have hset := R_set v (n := t) (y := 2) 4
          simp only [stc] at f26 hset
          have hHo : Hosted k t ps (us + 1) (upv v t 2) [] 1 := .at rfl (by simp [upv]) (fun n hn hne => by simp only [upv, if_neg hne]; exact h3 n hn) (by simpa using h4)
          repeat (first | refine NV.seq ?_ | refine NV.blk ?_ | refine V.seq rfl ?_ | refine V.block rfl ?_ | refine V.skip rfl ?_ | refine V.ret rfl ?_ | refine NV.nil ?_ | refine NV.loop ?_ | refine V.exit rfl ?_ | refine XV.seq ?_ | refine XV.loop ?_ | refine XV.hit ?_ | refine XV.pass (by decide) ?_ | refine V.condT rfl (by rfl) ?_ | refine V.condF rfl (by rfl) ?_ | refine V.region tm F.ok rfl (by conv => lhs; simp [q30n, hn1, hz, dk1, b1, b2, b3, stB, wyB, wr, hmsg, ht, qt, qt0, qt3, hget, hset, f26, hwu, n1, n2, n3, n4, n5, n1', n2', n3', n4', n5']) fun _ => ?_ | refine V.regionD tm F.ok rfl (by conv => lhs; simp [q30n, hn1, hz, dk1, b1, b2, b3, stB, wyB, wr, hmsg, ht, qt, qt0, qt3, hget, hset, f26, hwu, n1, n2, n3, n4, n5, n1', n2', n3', n4', n5']) (by conv => lhs; simp) (by rcases hid with e | e | e <;> subst e <;> kernel_rfl) fun _ => ?_)
          refine V.caps (t := 12) rfl (by simp [lk_st, n1, n2, n3, n4, n5, n1', n2', n3', n4', n5', b3]; rfl) rfl fun cap hc1 hc2 => ?_
          have hc1 : 1 ≤ cap := hc1
          repeat (first | refine NV.seq ?_ | refine NV.blk ?_ | refine V.seq rfl ?_ | refine V.block rfl ?_ | refine V.skip rfl ?_ | refine V.ret rfl ?_ | refine NV.nil ?_ | refine NV.loop ?_ | refine V.exit rfl ?_ | refine XV.seq ?_ | refine XV.loop ?_ | refine XV.hit ?_ | refine XV.pass (by decide) ?_ | refine V.condT rfl (by rfl) ?_ | refine V.condF rfl (by rfl) ?_ | refine V.region tm F.ok rfl (by conv => lhs; simp [q30n, hn1, hz, dk1, b1, b2, b3, stB, wyB, wr, hmsg, ht, qt, qt0, qt3, hget, hset, f26, hc1, hc2, hwu, n1, n2, n3, n4, n5, n1', n2', n3', n4', n5']) fun _ => ?_ | refine V.regionD tm F.ok rfl (by conv => lhs; simp [q30n, hn1, hz, dk1, b1, b2, b3, stB, wyB, wr, hmsg, ht, qt, qt0, qt3, hget, hset, f26, hc1, hc2, hwu, n1, n2, n3, n4, n5, n1', n2', n3', n4', n5']) (by conv => lhs; simp) (by rcases hid with e | e | e <;> subst e <;> kernel_rfl) fun _ => ?_)
          exact ⟨⟨k, t, ps, us + 1, upv v t 2, [], id, g, pre ++ [hmsg f t], nk L dk, _⟩, rfl, HI.of (by omega) (by omega) (by omega) hdk1 (by omega) hHo hid (by simp [lk_st, n1, n2, n3, n4, n5, n1', n2', n3', n4', n5', b1, stB]) (by simp [lk_st, n1, n2, n3, n4, n5, n1', n2', n3', n4', n5', b2, dk1]) (by simp [lk_st, n1, n2, n3, n4, n5, n1', n2', n3', n4', n5', b3, wyB, splice, wr, hmsg, take_snoc]), AS.le_of' rfl ⟨⟨_, rfl, AV.weaker_refl _⟩, ⟨_, rfl, weaker_slc' (by simp) (by simp)⟩, ⟨_, rfl, AV.weaker_refl _⟩, ⟨_, rfl, AV.weaker_refl _⟩, ⟨_, rfl, AV.weaker_refl _⟩, ⟨_, rfl, AV.weaker_refl _⟩, ⟨_, rfl, AV.weaker_refl _⟩, ⟨_, rfl, AV.weaker_refl _⟩, trivial⟩ (fun _ => rfl)⟩
        · have htp' : t ≠ pl := htp
          have f26 := F.f26b t pl (v t) ht hpl (by have := h3 t ht; omega) htp'
          have hset := R_set v (n := t) (y := v t) 4
          simp only [stc] at f26 hset
          simp only [if_neg htp'] at h4
          have hHo : Hosted k pl ps (us + 1) (upv v t (v t)) [(t, pl)] 1 := .way t pl rfl hpl (fun n hn => by
            by_cases e : n = t
            · subst e; simp only [upv, if_true]; exact h3 n hn
            · simp only [upv, if_neg e]; exact h3 n hn) (by simp; omega) (fun _ => rfl) (by have := h5; omega)
          repeat (first | refine NV.seq ?_ | refine NV.blk ?_ | refine V.seq rfl ?_ | refine V.block rfl ?_ | refine V.skip rfl ?_ | refine V.ret rfl ?_ | refine NV.nil ?_ | refine NV.loop ?_ | refine V.exit rfl ?_ | refine XV.seq ?_ | refine XV.loop ?_ | refine XV.hit ?_ | refine XV.pass (by decide) ?_ | refine V.condT rfl (by rfl) ?_ | refine V.condF rfl (by rfl) ?_ | refine V.region tm F.ok rfl (by conv => lhs; simp [q30n, hn1, hz, dk1, b1, b2, b3, stB, wyB, wr, hmsg, ht, qt, qt0, qt3, hget, hset, f26, hwu, n1, n2, n3, n4, n5, n1', n2', n3', n4', n5']) fun _ => ?_ | refine V.regionD tm F.ok rfl (by conv => lhs; simp [q30n, hn1, hz, dk1, b1, b2, b3, stB, wyB, wr, hmsg, ht, qt, qt0, qt3, hget, hset, f26, hwu, n1, n2, n3, n4, n5, n1', n2', n3', n4', n5']) (by conv => lhs; simp) (by rcases hid with e | e | e <;> subst e <;> kernel_rfl) fun _ => ?_)
          refine V.caps (t := 12) rfl (by simp [lk_st, n1, n2, n3, n4, n5, n1', n2', n3', n4', n5', b3]; rfl) rfl fun cap hc1 hc2 => ?_
          have hc1 : 1 ≤ cap := hc1
          by_cases hc3 : cap = 1
          · subst hc3
            repeat (first | refine NV.seq ?_ | refine NV.blk ?_ | refine V.seq rfl ?_ | refine V.block rfl ?_ | refine V.skip rfl ?_ | refine V.ret rfl ?_ | refine NV.nil ?_ | refine NV.loop ?_ | refine V.exit rfl ?_ | refine XV.seq ?_ | refine XV.loop ?_ | refine XV.hit ?_ | refine XV.pass (by decide) ?_ | refine V.condT rfl (by rfl) ?_ | refine V.condF rfl (by rfl) ?_ | refine V.region tm F.ok rfl (by conv => lhs; simp [q30n, hn1, hz, dk1, b1, b2, b3, stB, wyB, wr, hmsg, ht, qt, qt0, qt3, hget, hset, f26, hc2, hwu, n1, n2, n3, n4, n5, n1', n2', n3', n4', n5', maxLen]) fun _ => ?_ | refine V.regionD tm F.ok rfl (by conv => lhs; simp [q30n, hn1, hz, dk1, b1, b2, b3, stB, wyB, wr, hmsg, ht, qt, qt0, qt3, hget, hset, f26, hc2, hwu, n1, n2, n3, n4, n5, n1', n2', n3', n4', n5', maxLen]) (by conv => lhs; simp) (by rcases hid with e | e | e <;> subst e <;> kernel_rfl) fun _ => ?_)
            exact ⟨⟨k, pl, ps, us + 1, upv v t (v t), [(t, pl)], 2112, ((lk h 2112).getD {}).gen + 1, [], nk L dk, _⟩, rfl, HI.of (by omega) (by omega) (by omega) hdk1 (by omega) hHo (by omega) (by simp [lk_st, n1, n2, n3, n4, n5, n1', n2', n3', n4', n5', b1, stB]) (by simp [lk_st, n1, n2, n3, n4, n5, n1', n2', n3', n4', n5', b2, dk1]) (by simp [lk_st, n1, n2, n3, n4, n5, n1', n2', n3', n4', n5', wyB, wr, hmsg]), AS.le_of' rfl ⟨⟨_, rfl, AV.weaker_refl _⟩, ⟨_, rfl, AV.weaker_refl _⟩, ⟨_, rfl, AV.weaker_refl _⟩, ⟨_, rfl, AV.weaker_refl _⟩, ⟨_, rfl, AV.weaker_refl _⟩, ⟨_, rfl, AV.weaker_refl _⟩, ⟨_, rfl, AV.weaker_refl _⟩, ⟨_, rfl, AV.weaker_refl _⟩, trivial⟩ (fun _ => rfl)⟩
          · have hc4 : 1 ≤ cap - 1 := by omega
            repeat (first | refine NV.seq ?_ | refine NV.blk ?_ | refine V.seq rfl ?_ | refine V.block rfl ?_ | refine V.skip rfl ?_ | refine V.ret rfl ?_ | refine NV.nil ?_ | refine NV.loop ?_ | refine V.exit rfl ?_ | refine XV.seq ?_ | refine XV.loop ?_ | refine XV.hit ?_ | refine XV.pass (by decide) ?_ | refine V.condT rfl (by rfl) ?_ | refine V.condF rfl (by rfl) ?_ | refine V.region tm F.ok rfl (by conv => lhs; simp [q30n, hn1, hz, dk1, b1, b2, b3, stB, wyB, wr, hmsg, ht, qt, qt0, qt3, hget, hset, f26, hc1, hc2, hc4, hwu, n1, n2, n3, n4, n5, n1', n2', n3', n4', n5']) fun _ => ?_ | refine V.regionD tm F.ok rfl (by conv => lhs; simp [q30n, hn1, hz, dk1, b1, b2, b3, stB, wyB, wr, hmsg, ht, qt, qt0, qt3, hget, hset, f26, hc1, hc2, hc4, hwu, n1, n2, n3, n4, n5, n1', n2', n3', n4', n5']) (by conv => lhs; simp) (by rcases hid with e | e | e <;> subst e <;> kernel_rfl) fun _ => ?_)
            exact ⟨⟨k, pl, ps, us + 1, upv v t (v t), [(t, pl)], id, g, pre ++ [hmsg f t], nk L dk, _⟩, rfl, HI.of (by omega) (by omega) (by omega) hdk1 (by omega) hHo hid (by simp [lk_st, n1, n2, n3, n4, n5, n1', n2', n3', n4', n5', b1, stB]) (by simp [lk_st, n1, n2, n3, n4, n5, n1', n2', n3', n4', n5', b2, dk1]) (by simp [lk_st, n1, n2, n3, n4, n5, n1', n2', n3', n4', n5', b3, wyB, splice, wr, hmsg, take_snoc]), AS.le_of' rfl ⟨⟨_, rfl, AV.weaker_refl _⟩, ⟨_, rfl, weaker_slc' (by simp) (by simp)⟩, ⟨_, rfl, AV.weaker_refl _⟩, ⟨_, rfl, AV.weaker_refl _⟩, ⟨_, rfl, AV.weaker_refl _⟩, ⟨_, rfl, AV.weaker_refl _⟩, ⟨_, rfl, AV.weaker_refl _⟩, ⟨_, rfl, AV.weaker_refl _⟩, trivial⟩ (fun _ => rfl)⟩
    · have q30 : ¬ (k : Int) < 30 := by omega
      have q30' : (30 : Int) ≤ k := by omega
      by_cases htp : t = pl
      · subst htp
        have f26 := F.f26a t (v t) ht (h3 t ht)
        have hset := R_set v (n := t) (y := 2) 4
        simp only [stc] at f26 hset
        have hHo : Hosted k t ps (us + 1) (upv v t 2) [] 1 := .at rfl (by simp [upv]) (fun n hn hne => by simp only [upv, if_neg hne]; exact h3 n hn) (by simpa using h4)
        repeat (first | refine NV.seq ?_ | refine NV.blk ?_ | refine V.seq rfl ?_ | refine V.block rfl ?_ | refine V.skip rfl ?_ | refine V.ret rfl ?_ | refine NV.nil ?_ | refine NV.loop ?_ | refine V.exit rfl ?_ | refine XV.seq ?_ | refine XV.loop ?_ | refine XV.hit ?_ | refine XV.pass (by decide) ?_ | refine V.condT rfl (by rfl) ?_ | refine V.condF rfl (by rfl) ?_ | refine V.region tm F.ok rfl (by conv => lhs; simp [q30', b1, b2, b3, stB, wyB, wr, hmsg, ht, qt, qt0, qt3, hget, hset, f26, hwu, n1, n2, n3, n4, n5, n1', n2', n3', n4', n5']) fun _ => ?_ | refine V.regionD tm F.ok rfl (by conv => lhs; simp [q30', b1, b2, b3, stB, wyB, wr, hmsg, ht, qt, qt0, qt3, hget, hset, f26, hwu, n1, n2, n3, n4, n5, n1', n2', n3', n4', n5']) (by conv => lhs; simp) (by rcases hid with e | e | e <;> subst e <;> kernel_rfl) fun _ => ?_)
        refine V.caps (t := 12) rfl (by simp [lk_st, n1, n2, n3, n4, n5, n1', n2', n3', n4', n5', b3]; rfl) rfl fun cap hc1 hc2 => ?_
        have hc1 : 1 ≤ cap := hc1
        repeat (first | refine NV.seq ?_ | refine NV.blk ?_ | refine V.seq rfl ?_ | refine V.block rfl ?_ | refine V.skip rfl ?_ | refine V.ret rfl ?_ | refine NV.nil ?_ | refine NV.loop ?_ | refine V.exit rfl ?_ | refine XV.seq ?_ | refine XV.loop ?_ | refine XV.hit ?_ | refine XV.pass (by decide) ?_ | refine V.condT rfl (by rfl) ?_ | refine V.condF rfl (by rfl) ?_ | refine V.region tm F.ok rfl (by conv => lhs; simp [q30', b1, b2, b3, stB, wyB, wr, hmsg, ht, qt, qt0, qt3, hget, hset, f26, hc1, hc2, hwu, n1, n2, n3, n4, n5, n1', n2', n3', n4', n5']) fun _ => ?_ | refine V.regionD tm F.ok rfl (by conv => lhs; simp [q30', b1, b2, b3, stB, wyB, wr, hmsg, ht, qt, qt0, qt3, hget, hset, f26, hc1, hc2, hwu, n1, n2, n3, n4, n5, n1', n2', n3', n4', n5']) (by conv => lhs; simp) (by rcases hid with e | e | e <;> subst e <;> kernel_rfl) fun _ => ?_)
        exact ⟨⟨k, t, ps, us + 1, upv v t 2, [], id, g, pre ++ [hmsg f t], dk, _⟩, rfl, HI.of (by omega) (by omega) (by omega) hdk (by omega) hHo hid (by simp [lk_st, n1, n2, n3, n4, n5, n1', n2', n3', n4', n5', b1, stB]) (by simp [lk_st, n1, n2, n3, n4, n5, n1', n2', n3', n4', n5', b2, dk1]) (by simp [lk_st, n1, n2, n3, n4, n5, n1', n2', n3', n4', n5', b3, wyB, splice, wr, hmsg, take_snoc]), AS.le_of' rfl ⟨⟨_, rfl, AV.weaker_refl _⟩, ⟨_, rfl, weaker_slc' (by simp) (by simp)⟩, ⟨_, rfl, AV.weaker_refl _⟩, ⟨_, rfl, AV.weaker_refl _⟩, ⟨_, rfl, AV.weaker_refl _⟩, ⟨_, rfl, AV.weaker_refl _⟩, ⟨_, rfl, AV.weaker_refl _⟩, ⟨_, rfl, AV.weaker_refl _⟩, trivial⟩ (fun _ => rfl)⟩
      · have htp' : t ≠ pl := htp
        have f26 := F.f26b t pl (v t) ht hpl (by have := h3 t ht; omega) htp'
        have hset := R_set v (n := t) (y := v t) 4
        simp only [stc] at f26 hset
        simp only [if_neg htp'] at h4
        have hHo : Hosted k pl ps (us + 1) (upv v t (v t)) [(t, pl)] 1 := .way t pl rfl hpl (fun n hn => by
          by_cases e : n = t
          · subst e; simp only [upv, if_true]; exact h3 n hn
          · simp only [upv, if_neg e]; exact h3 n hn) (by simp; omega) (fun _ => rfl) (by have := h5; omega)
        repeat (first | refine NV.seq ?_ | refine NV.blk ?_ | refine V.seq rfl ?_ | refine V.block rfl ?_ | refine V.skip rfl ?_ | refine V.ret rfl ?_ | refine NV.nil ?_ | refine NV.loop ?_ | refine V.exit rfl ?_ | refine XV.seq ?_ | refine XV.loop ?_ | refine XV.hit ?_ | refine XV.pass (by decide) ?_ | refine V.condT rfl (by rfl) ?_ | refine V.condF rfl (by rfl) ?_ | refine V.region tm F.ok rfl (by conv => lhs; simp [q30', b1, b2, b3, stB, wyB, wr, hmsg, ht, qt, qt0, qt3, hget, hset, f26, hwu, n1, n2, n3, n4, n5, n1', n2', n3', n4', n5']) fun _ => ?_ | refine V.regionD tm F.ok rfl (by conv => lhs; simp [q30', b1, b2, b3, stB, wyB, wr, hmsg, ht, qt, qt0, qt3, hget, hset, f26, hwu, n1, n2, n3, n4, n5, n1', n2', n3', n4', n5']) (by conv => lhs; simp) (by rcases hid with e | e | e <;> subst e <;> kernel_rfl) fun _ => ?_)
        refine V.caps (t := 12) rfl (by simp [lk_st, n1, n2, n3, n4, n5, n1', n2', n3', n4', n5', b3]; rfl) rfl fun cap hc1 hc2 => ?_
        have hc1 : 1 ≤ cap := hc1
        by_cases hc3 : cap = 1
        · subst hc3
          repeat (first | refine NV.seq ?_ | refine NV.blk ?_ | refine V.seq rfl ?_ | refine V.block rfl ?_ | refine V.skip rfl ?_ | refine V.ret rfl ?_ | refine NV.nil ?_ | refine NV.loop ?_ | refine V.exit rfl ?_ | refine XV.seq ?_ | refine XV.loop ?_ | refine XV.hit ?_ | refine XV.pass (by decide) ?_ | refine V.condT rfl (by rfl) ?_ | refine V.condF rfl (by rfl) ?_ | refine V.region tm F.ok rfl (by conv => lhs; simp [q30', b1, b2, b3, stB, wyB, wr, hmsg, ht, qt, qt0, qt3, hget, hset, f26, hc2, hwu, n1, n2, n3, n4, n5, n1', n2', n3', n4', n5', maxLen]) fun _ => ?_ | refine V.regionD tm F.ok rfl (by conv => lhs; simp [q30', b1, b2, b3, stB, wyB, wr, hmsg, ht, qt, qt0, qt3, hget, hset, f26, hc2, hwu, n1, n2, n3, n4, n5, n1', n2', n3', n4', n5', maxLen]) (by conv => lhs; simp) (by rcases hid with e | e | e <;> subst e <;> kernel_rfl) fun _ => ?_)
          exact ⟨⟨k, pl, ps, us + 1, upv v t (v t), [(t, pl)], 2112, ((lk h 2112).getD {}).gen + 1, [], dk, _⟩, rfl, HI.of (by omega) (by omega) (by omega) hdk (by omega) hHo (by omega) (by simp [lk_st, n1, n2, n3, n4, n5, n1', n2', n3', n4', n5', b1, stB]) (by simp [lk_st, n1, n2, n3, n4, n5, n1', n2', n3', n4', n5', b2, dk1]) (by simp [lk_st, n1, n2, n3, n4, n5, n1', n2', n3', n4', n5', wyB, wr, hmsg]), AS.le_of' rfl ⟨⟨_, rfl, AV.weaker_refl _⟩, ⟨_, rfl, AV.weaker_refl _⟩, ⟨_, rfl, AV.weaker_refl _⟩, ⟨_, rfl, AV.weaker_refl _⟩, ⟨_, rfl, AV.weaker_refl _⟩, ⟨_, rfl, AV.weaker_refl _⟩, ⟨_, rfl, AV.weaker_refl _⟩, ⟨_, rfl, AV.weaker_refl _⟩, trivial⟩ (fun _ => rfl)⟩
        · have hc4 : 1 ≤ cap - 1 := by omega
          repeat (first | refine NV.seq ?_ | refine NV.blk ?_ | refine V.seq rfl ?_ | refine V.block rfl ?_ | refine V.skip rfl ?_ | refine V.ret rfl ?_ | refine NV.nil ?_ | refine NV.loop ?_ | refine V.exit rfl ?_ | refine XV.seq ?_ | refine XV.loop ?_ | refine XV.hit ?_ | refine XV.pass (by decide) ?_ | refine V.condT rfl (by rfl) ?_ | refine V.condF rfl (by rfl) ?_ | refine V.region tm F.ok rfl (by conv => lhs; simp [q30', b1, b2, b3, stB, wyB, wr, hmsg, ht, qt, qt0, qt3, hget, hset, f26, hc1, hc2, hc4, hwu, n1, n2, n3, n4, n5, n1', n2', n3', n4', n5']) fun _ => ?_ | refine V.regionD tm F.ok rfl (by conv => lhs; simp [q30', b1, b2, b3, stB, wyB, wr, hmsg, ht, qt, qt0, qt3, hget, hset, f26, hc1, hc2, hc4, hwu, n1, n2, n3, n4, n5, n1', n2', n3', n4', n5']) (by conv => lhs; simp) (by rcases hid with e | e | e <;> subst e <;> kernel_rfl) fun _ => ?_)
          exact ⟨⟨k, pl, ps, us + 1, upv v t (v t), [(t, pl)], id, g, pre ++ [hmsg f t], dk, _⟩, rfl, HI.of (by omega) (by omega) (by omega) hdk (by omega) hHo hid (by simp [lk_st, n1, n2, n3, n4, n5, n1', n2', n3', n4', n5', b1, stB]) (by simp [lk_st, n1, n2, n3, n4, n5, n1', n2', n3', n4', n5', b2, dk1]) (by simp [lk_st, n1, n2, n3, n4, n5, n1', n2', n3', n4', n5', b3, wyB, splice, wr, hmsg, take_snoc]), AS.le_of' rfl ⟨⟨_, rfl, AV.weaker_refl _⟩, ⟨_, rfl, weaker_slc' (by simp) (by simp)⟩, ⟨_, rfl, AV.weaker_refl _⟩, ⟨_, rfl, AV.weaker_refl _⟩, ⟨_, rfl, AV.weaker_refl _⟩, ⟨_, rfl, AV.weaker_refl _⟩, ⟨_, rfl, AV.weaker_refl _⟩, ⟨_, rfl, AV.weaker_refl _⟩, trivial⟩ (fun _ => rfl)⟩
end Go.Abs.Fi
