/- PolicyMoves. Conditions: none. -/
import Derived.Test.YtkalkcgbecbgpaaPo6
namespace Go.Abs.Po
open Go Go.Proofs Go.Abs
set_option maxRecDepth 100000
set_option maxHeartbeats 4000000
set_option linter.unusedSimpArgs false
set_option linter.unusedVariables false
theorem nds_nodup (L : List Int) : (nds L).Nodup := List.Nodup.sublist (List.take_sublist _ _) (by decide)
theorem sq_take {pl : List Pl} {l : List Int} {k : Nat} {x : Int} (h : l[k]? = some x) : sq pl (l.take (k + 1)) = sq pl (l.take k) + cnt pl x * cnt pl x := by
  have key : ∀ a b : List Int, sq pl (a ++ b) = sq pl a + sq pl b := by
    intro a b
    induction a with
    | nil => simp [sq]
    | cons y r ih => simp only [List.cons_append, sq, ih]; omega
  rw [List.take_add_one, h, key]
  simp [sq]
theorem sq_le {pl : List Pl} (h : pl.length ≤ 14) : ∀ l : List Int, sq pl l ≤ 196 * l.length
  | [] => by simp [sq]
  | n :: r => by
    have h1 := cnt_le pl n
    have h2 : cnt pl n * cnt pl n ≤ 14 * 14 := Nat.mul_le_mul (by omega) (by omega)
    have := sq_le h r
    simp only [sq, List.length_cons]
    omega
/-- What is known of what is made of two decks, and more. -/
structure Made2 (nodes : List Int) (pl : List Pl) (gs : List (List Int)) (t : Tm) : Prop extends Made nodes pl gs t where
  nd : nodes.Nodup
  srt : Srt pl
theorem made2 (L M : List Int) : Made2 (nds L) (plR L).1 (gRes M (plR L).1) (tmL L) := ⟨made L M, nds_nodup L, plR_srt L⟩
noncomputable def lm_specs : NL Spec := [(7, ⟨0, saneS⟩), (8, ⟨1, placesS⟩), (9, ⟨1, groupsS⟩), (10, ⟨1, countrS⟩), (12, ⟨1, decS⟩), (22, ⟨1, plcrS⟩), (16, ⟨1, carS⟩), (15, ⟨0, smS⟩)]
theorem lm_specs_ok : ∀ p ∈ lm_specs, FnC Try.prog p.1 p.2.fn := by
  simp only [lm_specs, List.mem_cons, List.not_mem_nil, or_false]
  rintro p (rfl | rfl | rfl | rfl | rfl | rfl | rfl | rfl)
  · exact sane_ok
  · exact places_ok
  · exact groups_ok
  · exact countr_ok
  · exact dec_ok
  · exact plcr_ok
  · exact car_ok
  · exact sm_ok
attribute [local simp] runL stepA execA_eq skipA run_ret run_fail run_get run_put run_asm num lk st lk_st putA AS.ev ofValue ofFlat mkv splice fieldAddrA buildA fillA runF gdst pickA unOpA extractA resVs resV pack frzT inlT inlV frzV frzVs frzL frz1 newId AV.cellsOf AV.flat AV.flat2 specOf loadA_runR capA copyA copyTo srcA sliceCA slice3A appendZA extA AV.place lenCA clearA clearTo expG expB3 List.zipWith renL fF handB renB AV.ren backF backL idsOf freshIds refsL refsB AV.refs List.range List.range.loop placesA sliceRows rowsOf convertA sliceArrA sliceA bndA nilCheckA arrayAtA mmA lookupA keyOf keyOK findA keyEqA foundA makeMapA mapUpdateA appendA rowsA indexA partA fieldA retE2 frqT frqV frqVs frqL frq1 reachE blkRefs outE nodupE firstE seqO expB2 expF instA take_len_map List.findIdx?_cons List.findIdx?_nil lm_specs saneS_eq
theorem moves_walk {nodes : List Int} {pl : List Pl} {gs : List (List Int)} {hi : Int} {P : AV} {L M : List Int} (hm : Made2 nodes pl gs ⟨hi, 0, 3⟩) (hIP : IsP P pl)
    (hP : placesS [.list 1 (L.map ic)] [] = some (.tup [.agg [.int .i64 1, .list 1 (nodes.map ic), .nils, P, .nils, .nils], .agg [.int .i64 hi, .int .i64 0, .int .i64 3]], []))
    (hG : groupsS [.list 1 (M.map ic), .agg [.int .i64 1, .list 1 (nodes.map ic), .nils, P, .nils, .nils]] [] = some (.list 1 (gs.map gL), [])) :
    W Try.prog (Ret Try.prog Try.f6 (.bool true) []) (codeOf Try.f6) [] ⟨165, [(0, .list 1 (L.map ic)), (1, .list 1 (M.map ic))], []⟩ := by
  have n1 : nodes.length ≤ 8 := by have := hm.hn; omega
  have n1' : nodes.length ≤ 200 := by omega
  have n2 : pl.length ≤ 200 := by have := hm.hl; omega
  have n3 : (lds nodes pl).length ≤ 200 := by simp [lds]; omega
  have n4 := dec_len hm.toMade
  have hC := countrS_eq 1 nodes P pl hIP n1 n2
  have hD := decS_eq (lds nodes pl) n3 gs (by have := hm.hg; omega) (fun g hg => by have := hm.hg' g hg; omega) 1 nodes P pl hIP n1 n2 ⟨hi, 0, 3⟩
  have hK := carS_eq 1 nodes P pl (dec (lds nodes pl) gs pl ⟨hi, 0, 3⟩) hIP n1 (by have := hm.hl; omega)
  have hcs := dec_cases nodes gs (pl := pl) n2 ⟨hi, 0, 3⟩ hm.ht
  have hS := smS_eq 1 nodes P (plL pl) pl hIP (isP_plL pl) n1 n2
  dsimp only at hD
  rcases hIP with hIP | ⟨hIP, _⟩
  all_goals
    simp only [hIP, plL] at hP hG hC hD hK hS
    rcases hcs with he | ⟨g, f, u, hp⟩
    · rw [he] at hD hK
      simp only [pnV, if_true, car, List.foldl_nil] at hD hK
      repeat (first | refine N.seq ?_ | refine N.blk ?_ | refine W.seq rfl ?_ | refine W.block rfl ?_ | refine W.skip rfl ?_ | refine W.ret rfl ?_ | refine N.nil ?_ | refine N.loop ?_ | refine W.exit rfl ?_ | refine X.seq ?_ | refine X.loop ?_ | refine X.hit ?_ | refine X.pass (by decide) ?_ | refine W.condT rfl (by rfl) ?_ | refine W.condF rfl (by rfl) ?_ | refine W.region tm lm_specs_ok rfl (by conv => lhs; simp [hP, hG, hC, hD, hK, hS]) fun _ => ?_ | refine W.regionD tm lm_specs_ok rfl (by conv => lhs; simp [hP, hG, hC, hD, hK, hS]) (by conv => lhs; simp) (by kernel_rfl) fun _ => ?_)
      first | exact Ret.dataR rfl (by conv => lhs; simp) (by conv => lhs; simp) (by first | rfl | simp [inlT, inlV]) | fail "no return here"
    · obtain ⟨d, hd1, hd⟩ := moved hm.srt hp
      have hsq := moved_sq hm.srt hm.nd hp
      have hpe : dec (lds nodes pl) gs pl ⟨hi, 0, 3⟩ = mvs g f u := hp.eq
      rw [hpe] at hD hK
      have hne : mvs g f u ≠ [] := by simpa [mvs] using hp.ne
      simp only [pnV, if_neg hne] at hD hK
      have hlen : (mvs g f u).length = g.length := by simp [mvs]
      have hget : ∀ (k : Nat) id, g[k]? = some id → (mvs g f u)[k]? = some ⟨id, f, u⟩ := fun k id h => by rw [mvs, List.getElem?_map, h]; rfl
      have hpl' : (car pl (mvs g f u)).length = pl.length := by have := congrArg List.length hd.ids; simpa using this
      have hg16 := hm.hg' g hp.mem
      have hC2 := countrS_eq 1 nodes (.list 2 ((car pl (mvs g f u)).map Pl.cells)) _ (isP_plL _) n1 (by omega)
      have hPl := fun id => plcrS_eq 1 nodes (.list 2 ((car pl (mvs g f u)).map Pl.cells)) _ id (isP_plL _) n1 (by omega)
      have hat := hd.at_
      have s1 := sq_le (pl := pl) hm.hl
      have s2 := sq_le (pl := car pl (mvs g f u)) (by have := hm.hl; omega)
      have hl0 : 0 < (mvs g f u).length := List.length_pos_iff.2 hne
      have q00 : (((mvs g f u).length : Int) == 0) = false := beq_eq_false_iff_ne.2 (by omega)
      clear hd
      generalize car pl (mvs g f u) = pl' at *
      generalize mvs g f u = ps at *
      repeat (first | refine N.seq ?_ | refine N.blk ?_ | refine W.seq rfl ?_ | refine W.block rfl ?_ | refine W.skip rfl ?_ | refine W.ret rfl ?_ | refine N.nil ?_ | refine N.loop ?_ | refine W.exit rfl ?_ | refine X.seq ?_ | refine X.loop ?_ | refine X.hit ?_ | refine X.pass (by decide) ?_ | refine W.condT rfl (by rfl) ?_ | refine W.condF rfl (by rfl) ?_ | refine W.region tm lm_specs_ok rfl (by conv => lhs; simp [hP, hG, hC, hD, hK, hS, Pn.cells, q00, hne]) fun _ => ?_ | refine W.regionD tm lm_specs_ok rfl (by conv => lhs; simp [hP, hG, hC, hD, hK, hS, Pn.cells, q00, hne]) (by conv => lhs; simp) (by kernel_rfl) fun _ => ?_)
      refine W.loop rfl (ι := { q : Nat × Bool × NL ABlk // q.1 ≤ gs.length ∧ (g ∈ gs.take q.1 → q.2.1 = true) ∧ lk q.2.2 96 = some (vB 1 nodes P) ∧ lk q.2.2 160 = some (vB 1 nodes (plL pl')) })
        (fun q => ⟨165, [(5, .ptr 96 1 0 0), (8, .list 3 (ps.map Pn.cells)), (9, .ptr 160 1 0 0), (10, .bool q.1.2.1), (50, .list 1 (gs.map gL)), (51, .int .i64 gs.length), (52, .int .i64 (q.1.1 : Nat))], q.1.2.2⟩) (fun q => gs.length - q.1.1)
        ⟨(0, false, _), by simp, by simp, by simp [lk_st, lk, vB, vA, hIP], by simp [lk_st, lk, vB, vA, plL]⟩ (AS.le_of rfl ⟨rfl, rfl, rfl, rfl, rfl, rfl, rfl, trivial⟩ (fun _ => rfl)) ?_
      rintro ⟨⟨k, w, h⟩, hk, hw, h1, h2⟩
      dsimp only at hk hw h1 h2 ⊢
      by_cases hk2 : k = gs.length
      · subst hk2
        rw [List.take_length] at hw
        rw [hw hp.mem]
        clear hw w
        repeat (first | refine N.seq ?_ | refine N.blk ?_ | refine W.seq rfl ?_ | refine W.block rfl ?_ | refine W.skip rfl ?_ | refine W.ret rfl ?_ | refine N.nil ?_ | refine N.loop ?_ | refine W.exit rfl ?_ | refine X.seq ?_ | refine X.loop ?_ | refine X.hit ?_ | refine X.pass (by decide) ?_ | refine W.condT rfl (by rfl) ?_ | refine W.condF rfl (by rfl) ?_ | refine W.region tm lm_specs_ok rfl (by conv => lhs; simp) fun _ => ?_ | refine W.regionD tm lm_specs_ok rfl (by conv => lhs; simp) (by conv => lhs; simp) (by kernel_rfl) fun _ => ?_)
        refine W.loop rfl (ι := { q : Nat × NL ABlk // q.1 ≤ ps.length ∧ lk q.2 96 = some (vB 1 nodes P) ∧ lk q.2 160 = some (vB 1 nodes (plL pl')) })
          (fun q => ⟨165, [(5, .ptr 96 1 0 0), (8, .list 3 (ps.map Pn.cells)), (9, .ptr 160 1 0 0), (10, .bool true), (91, .list 3 (ps.map Pn.cells)), (92, .int .i64 ps.length), (93, .int .i64 (q.1.1 : Nat))], q.1.2⟩) (fun q => ps.length - q.1.1)
          ⟨(0, _), by simp, h1, h2⟩ (AS.le_of rfl ⟨rfl, rfl, rfl, rfl, rfl, rfl, rfl, trivial⟩ (fun _ => rfl)) ?_
        clear hk h1 h2 h
        rintro ⟨⟨k, h⟩, hk, h1, h2⟩
        dsimp only at hk h1 h2 ⊢
        by_cases hk2 : k = ps.length
        · subst hk2
          have hll : ∀ T, (lds nodes T).length = nodes.length := fun T => by simp [lds]
          have hld : ∀ T (k : Nat) x, nodes[k]? = some x → (lds nodes T)[k]? = some (ldOf T x) := fun T k x h => by rw [lds, List.getElem?_map, h]; rfl
          repeat (first | refine N.seq ?_ | refine N.blk ?_ | refine W.seq rfl ?_ | refine W.block rfl ?_ | refine W.skip rfl ?_ | refine W.ret rfl ?_ | refine N.nil ?_ | refine N.loop ?_ | refine W.exit rfl ?_ | refine X.seq ?_ | refine X.loop ?_ | refine X.hit ?_ | refine X.pass (by decide) ?_ | refine W.condT rfl (by rfl) ?_ | refine W.condF rfl (by rfl) ?_ | refine W.region tm lm_specs_ok rfl (by conv => lhs; simp [h1, vB, vA, hIP, hC]) fun _ => ?_ | refine W.regionD tm lm_specs_ok rfl (by conv => lhs; simp [h1, vB, vA, hIP, hC]) (by conv => lhs; simp) (by kernel_rfl) fun _ => ?_)
          have l1 := hll pl
          have g1 := hld pl
          generalize lds nodes pl = LL at l1 g1 ⊢
          refine W.loop rfl (ι := { q : Nat × NL ABlk // q.1 ≤ nodes.length ∧ lk q.2 96 = some (vB 1 nodes P) ∧ lk q.2 160 = some (vB 1 nodes (plL pl')) })
            (fun q => ⟨165, [(5, .ptr 96 1 0 0), (8, .list 3 (ps.map Pn.cells)), (9, .ptr 160 1 0 0), (10, .bool true), (19, .int .i64 (sq pl (nodes.take q.1.1) : Nat)), (20, .int .i64 0), (114, .list 3 (LL.map Ld.cells)), (115, .int .i64 LL.length), (116, .int .i64 (q.1.1 : Nat))], q.1.2⟩) (fun q => nodes.length - q.1.1)
            ⟨(0, _), by simp, h1, h2⟩ (AS.le_of rfl ⟨rfl, rfl, rfl, rfl, by simp [sq], rfl, rfl, rfl, rfl, trivial⟩ (fun _ => rfl)) ?_
          clear hk h1 h2 h
          rintro ⟨⟨k, h⟩, hk, h1, h2⟩
          dsimp only at hk h1 h2 ⊢
          by_cases hk2 : k = nodes.length
          · subst hk2
            rw [List.take_length]
            repeat (first | refine N.seq ?_ | refine N.blk ?_ | refine W.seq rfl ?_ | refine W.block rfl ?_ | refine W.skip rfl ?_ | refine W.ret rfl ?_ | refine N.nil ?_ | refine N.loop ?_ | refine W.exit rfl ?_ | refine X.seq ?_ | refine X.loop ?_ | refine X.hit ?_ | refine X.pass (by decide) ?_ | refine W.condT rfl (by rfl) ?_ | refine W.condF rfl (by rfl) ?_ | refine W.region tm lm_specs_ok rfl (by conv => lhs; simp [l1, h2, vB, vA, plL, hC2]) fun _ => ?_ | refine W.regionD tm lm_specs_ok rfl (by conv => lhs; simp [l1, h2, vB, vA, plL, hC2]) (by conv => lhs; simp) (by kernel_rfl) fun _ => ?_)
            have l2 := hll pl'
            have g2 := hld pl'
            generalize lds nodes pl' = LL' at l2 g2 ⊢
            refine W.loop rfl (ι := { q : Nat × NL ABlk // q.1 ≤ nodes.length ∧ lk q.2 96 = some (vB 1 nodes P) })
              (fun q => ⟨165, [(5, .ptr 96 1 0 0), (8, .list 3 (ps.map Pn.cells)), (10, .bool true), (19, .int .i64 (sq pl nodes : Nat)), (20, .int .i64 (sq pl' (nodes.take q.1.1) : Nat)), (129, .list 3 (LL'.map Ld.cells)), (130, .int .i64 LL'.length), (131, .int .i64 (q.1.1 : Nat))], q.1.2⟩) (fun q => nodes.length - q.1.1)
              ⟨(0, _), by simp, h1⟩ (AS.le_of rfl ⟨rfl, rfl, rfl, rfl, by simp [sq], rfl, rfl, rfl, trivial⟩ (fun _ => rfl)) ?_
            clear hk h1 h2 h
            rintro ⟨⟨k, h⟩, hk, h1⟩
            dsimp only at hk h1 ⊢
            by_cases hk2 : k = nodes.length
            · subst hk2
              rw [List.take_length]
              have z1 : (sq pl' nodes : Int) ≤ sq pl nodes := by omega
              have z2 : (sq pl' nodes : Int) < sq pl nodes := by omega
              have z3 : sq pl' nodes ≤ sq pl nodes := by omega
              have z4 : sq pl' nodes < sq pl nodes := by omega
              repeat (first | refine N.seq ?_ | refine N.blk ?_ | refine W.seq rfl ?_ | refine W.block rfl ?_ | refine W.skip rfl ?_ | refine W.ret rfl ?_ | refine N.nil ?_ | refine N.loop ?_ | refine W.exit rfl ?_ | refine X.seq ?_ | refine X.loop ?_ | refine X.hit ?_ | refine X.pass (by decide) ?_ | refine W.condT rfl (by rfl) ?_ | refine W.condF rfl (by rfl) ?_ | refine W.region tm lm_specs_ok rfl (by conv => lhs; simp [l2, z1, z2, z3, z4]) fun _ => ?_ | refine W.regionD tm lm_specs_ok rfl (by conv => lhs; simp [l2, z1, z2, z3, z4]) (by conv => lhs; simp) (by kernel_rfl) fun _ => ?_)
              first | exact Ret.dataR rfl (by conv => lhs; simp) (by conv => lhs; simp) (by first | rfl | simp [inlT, inlV]) | fail "no return here"
            · have hlt : k < nodes.length := by omega
              obtain ⟨x, hx⟩ := get_lt hlt
              have hg := g2 k x hx
              have q1 : (k : Int) < LL'.length := by omega
              have q2 : ¬ LL'.length ≤ k := by omega
              have hw := w64_succ hlt (capX n1')
              have st := sq_take (pl := pl') hx
              have b1 := s2 (nodes.take k)
              have b2 := s2 (nodes.take (k + 1))
              rw [st] at b2
              simp only [List.length_take] at b1 b2
              have w1 : IntKind.i64.wrap ((cnt pl' x : Int) * (cnt pl' x : Int)) = (cnt pl' x : Int) * (cnt pl' x : Int) := by rw [← Int.natCast_mul]; exact w64 (by omega) (by omega)
              have w2 : IntKind.i64.wrap ((sq pl' (nodes.take k) : Int) + (cnt pl' x : Int) * (cnt pl' x : Int)) = ((sq pl' (nodes.take (k + 1)) : Nat) : Int) := by rw [st, Int.natCast_add, ← Int.natCast_mul]; exact w64 (by omega) (by omega)
              repeat (first | refine N.seq ?_ | refine N.blk ?_ | refine W.seq rfl ?_ | refine W.block rfl ?_ | refine W.skip rfl ?_ | refine W.ret rfl ?_ | refine N.nil ?_ | refine N.loop ?_ | refine W.exit rfl ?_ | refine X.seq ?_ | refine X.loop ?_ | refine X.hit ?_ | refine X.pass (by decide) ?_ | refine W.condT rfl (by rfl) ?_ | refine W.condF rfl (by rfl) ?_ | refine W.region tm lm_specs_ok rfl (by conv => lhs; simp [q1, q2, hg, ldOf, Ld.cells, hw, w1, w2]) fun _ => ?_ | refine W.regionD tm lm_specs_ok rfl (by conv => lhs; simp [q1, q2, hg, ldOf, Ld.cells, hw, w1, w2]) (by conv => lhs; simp) (by kernel_rfl) fun _ => ?_)
              exact ⟨⟨(k + 1, _), hlt, by simp [lk_st, h1]⟩, by dsimp only; omega, AS.le_of rfl ⟨rfl, rfl, rfl, rfl, rfl, rfl, rfl, rfl, trivial⟩ (fun _ => rfl)⟩
          · have hlt : k < nodes.length := by omega
            obtain ⟨x, hx⟩ := get_lt hlt
            have hg := g1 k x hx
            have q1 : (k : Int) < LL.length := by omega
            have q2 : ¬ LL.length ≤ k := by omega
            have hw := w64_succ hlt (capX n1')
            have st := sq_take (pl := pl) hx
            have b1 := s1 (nodes.take k)
            have b2 := s1 (nodes.take (k + 1))
            rw [st] at b2
            simp only [List.length_take] at b1 b2
            have w1 : IntKind.i64.wrap ((cnt pl x : Int) * (cnt pl x : Int)) = (cnt pl x : Int) * (cnt pl x : Int) := by rw [← Int.natCast_mul]; exact w64 (by omega) (by omega)
            have w2 : IntKind.i64.wrap ((sq pl (nodes.take k) : Int) + (cnt pl x : Int) * (cnt pl x : Int)) = ((sq pl (nodes.take (k + 1)) : Nat) : Int) := by rw [st, Int.natCast_add, ← Int.natCast_mul]; exact w64 (by omega) (by omega)
            repeat (first | refine N.seq ?_ | refine N.blk ?_ | refine W.seq rfl ?_ | refine W.block rfl ?_ | refine W.skip rfl ?_ | refine W.ret rfl ?_ | refine N.nil ?_ | refine N.loop ?_ | refine W.exit rfl ?_ | refine X.seq ?_ | refine X.loop ?_ | refine X.hit ?_ | refine X.pass (by decide) ?_ | refine W.condT rfl (by rfl) ?_ | refine W.condF rfl (by rfl) ?_ | refine W.region tm lm_specs_ok rfl (by conv => lhs; simp [q1, q2, hg, ldOf, Ld.cells, hw, w1, w2]) fun _ => ?_ | refine W.regionD tm lm_specs_ok rfl (by conv => lhs; simp [q1, q2, hg, ldOf, Ld.cells, hw, w1, w2]) (by conv => lhs; simp) (by kernel_rfl) fun _ => ?_)
            exact ⟨⟨(k + 1, _), hlt, by simp [lk_st, h1], by simp [lk_st, h2]⟩, by dsimp only; omega, AS.le_of rfl ⟨rfl, rfl, rfl, rfl, rfl, rfl, rfl, rfl, rfl, trivial⟩ (fun _ => rfl)⟩
        · have hlt : k < ps.length := by omega
          obtain ⟨id, hid⟩ := get_lt (l := g) (i := k) (by omega)
          have hx := hget k id hid
          have hq := hPl id
          rw [hat, if_pos (List.mem_of_getElem? hid)] at hq
          have q1 : (k : Int) < ps.length := by omega
          have q2 : ¬ ps.length ≤ k := by omega
          have hw := w64_succ hlt (capX (by omega))
          repeat (first | refine N.seq ?_ | refine N.blk ?_ | refine W.seq rfl ?_ | refine W.block rfl ?_ | refine W.skip rfl ?_ | refine W.ret rfl ?_ | refine N.nil ?_ | refine N.loop ?_ | refine W.exit rfl ?_ | refine X.seq ?_ | refine X.loop ?_ | refine X.hit ?_ | refine X.pass (by decide) ?_ | refine W.condT rfl (by rfl) ?_ | refine W.condF rfl (by rfl) ?_ | refine W.region tm lm_specs_ok rfl (by conv => lhs; simp [q1, q2, hx, Pn.cells, h2, vB, vA, plL, hq, hw]) fun _ => ?_ | refine W.regionD tm lm_specs_ok rfl (by conv => lhs; simp [q1, q2, hx, Pn.cells, h2, vB, vA, plL, hq, hw]) (by conv => lhs; simp) (by kernel_rfl) fun _ => ?_)
          exact ⟨⟨(k + 1, _), hlt, by simp [lk_st, h1], by simp [lk_st, h2, vB, vA, plL]⟩, by dsimp only; omega, AS.le_of rfl ⟨rfl, rfl, rfl, rfl, rfl, rfl, rfl, trivial⟩ (fun _ => rfl)⟩
      · have hlt : k < gs.length := by omega
        obtain ⟨x, hx⟩ := get_lt hlt
        have hxl := hm.hg' x (List.mem_of_getElem? hx)
        have q1 : (k : Int) < gs.length := by omega
        have q2 : ¬ gs.length ≤ k := by omega
        have hwk := w64_succ hlt (capX (by have := hm.hg; omega))
        have hst : g ∈ gs.take (k + 1) → x = g ∨ w = true := fun hgk => by
          rw [List.take_add_one, hx, List.mem_append] at hgk
          rcases hgk with hgk | hgk
          · exact .inr (hw hgk)
          · simp at hgk; exact .inl hgk.symm
        repeat (first | refine N.seq ?_ | refine N.blk ?_ | refine W.seq rfl ?_ | refine W.block rfl ?_ | refine W.skip rfl ?_ | refine W.ret rfl ?_ | refine N.nil ?_ | refine N.loop ?_ | refine W.exit rfl ?_ | refine X.seq ?_ | refine X.loop ?_ | refine X.hit ?_ | refine X.pass (by decide) ?_ | refine W.condT rfl (by rfl) ?_ | refine W.condF rfl (by rfl) ?_ | refine W.region tm lm_specs_ok rfl (by conv => lhs; simp [q1, q2, hx, gL]) fun _ => ?_ | refine W.regionD tm lm_specs_ok rfl (by conv => lhs; simp [q1, q2, hx, gL]) (by conv => lhs; simp) (by kernel_rfl) fun _ => ?_)
        refine W.loop rfl (ι := { q : Nat × Bool × NL ABlk // q.1 ≤ ps.length ∧ (x = g → q.2.1 = true) ∧ lk q.2.2 96 = some (vB 1 nodes P) ∧ lk q.2.2 160 = some (vB 1 nodes (plL pl')) })
          (fun q => ⟨165, [(5, .ptr 96 1 0 0), (8, .list 3 (ps.map Pn.cells)), (9, .ptr 160 1 0 0), (10, .bool w), (12, .list 1 (x.map uc)), (13, .bool q.1.2.1), (50, .list 1 (gs.map gL)), (51, .int .i64 gs.length), (52, .int .i64 (k : Nat)), (62, .int .i64 ps.length), (63, .int .i64 (q.1.1 : Nat))], q.1.2.2⟩) (fun q => ps.length - q.1.1)
          ⟨(0, _, _), by simp, fun e => by rw [e]; simp [hlen], h1, h2⟩ (AS.le_of rfl ⟨rfl, rfl, rfl, rfl, rfl, rfl, rfl, rfl, rfl, rfl, rfl, trivial⟩ (fun _ => rfl)) ?_
        clear h1 h2 h
        rintro ⟨⟨i, s, h⟩, hi, hs, h1, h2⟩
        dsimp only at hi hs h1 h2 ⊢
        by_cases hi2 : i = ps.length
        · subst hi2
          cases w with
          | true =>
            repeat (first | refine N.seq ?_ | refine N.blk ?_ | refine W.seq rfl ?_ | refine W.block rfl ?_ | refine W.skip rfl ?_ | refine W.ret rfl ?_ | refine N.nil ?_ | refine N.loop ?_ | refine W.exit rfl ?_ | refine X.seq ?_ | refine X.loop ?_ | refine X.hit ?_ | refine X.pass (by decide) ?_ | refine W.condT rfl (by rfl) ?_ | refine W.condF rfl (by rfl) ?_ | refine W.region tm lm_specs_ok rfl (by conv => lhs; simp [hwk]) fun _ => ?_ | refine W.regionD tm lm_specs_ok rfl (by conv => lhs; simp [hwk]) (by conv => lhs; simp) (by kernel_rfl) fun _ => ?_)
            exact ⟨⟨(k + 1, true, _), hlt, fun _ => rfl, h1, h2⟩, by dsimp only; omega, AS.le_of rfl ⟨rfl, rfl, rfl, rfl, rfl, rfl, rfl, trivial⟩ (fun _ => rfl)⟩
          | false =>
            repeat (first | refine N.seq ?_ | refine N.blk ?_ | refine W.seq rfl ?_ | refine W.block rfl ?_ | refine W.skip rfl ?_ | refine W.ret rfl ?_ | refine N.nil ?_ | refine N.loop ?_ | refine W.exit rfl ?_ | refine X.seq ?_ | refine X.loop ?_ | refine X.hit ?_ | refine X.pass (by decide) ?_ | refine W.condT rfl (by rfl) ?_ | refine W.condF rfl (by rfl) ?_ | refine W.region tm lm_specs_ok rfl (by conv => lhs; simp [hwk]) fun _ => ?_ | refine W.regionD tm lm_specs_ok rfl (by conv => lhs; simp [hwk]) (by conv => lhs; simp) (by kernel_rfl) fun _ => ?_)
            exact ⟨⟨(k + 1, s, _), hlt, fun e => (hst e).elim hs (fun h => by cases h), h1, h2⟩, by dsimp only; omega, AS.le_of rfl ⟨rfl, rfl, rfl, rfl, rfl, rfl, rfl, trivial⟩ (fun _ => rfl)⟩
        · have hil : i < ps.length := by omega
          have hwi := w64_succ hil (capX (by omega))
          obtain ⟨id, hid⟩ := get_lt (l := g) (i := i) (by omega)
          have hy := hget i id hid
          have q3 : (i : Int) < ps.length := by omega
          have q4 : ¬ ps.length ≤ i := by omega
          cases s with
          | false =>
            repeat (first | refine N.seq ?_ | refine N.blk ?_ | refine W.seq rfl ?_ | refine W.block rfl ?_ | refine W.skip rfl ?_ | refine W.ret rfl ?_ | refine N.nil ?_ | refine N.loop ?_ | refine W.exit rfl ?_ | refine X.seq ?_ | refine X.loop ?_ | refine X.hit ?_ | refine X.pass (by decide) ?_ | refine W.condT rfl (by rfl) ?_ | refine W.condF rfl (by rfl) ?_ | refine W.region tm lm_specs_ok rfl (by conv => lhs; simp [q3, q4, hwi]) fun _ => ?_ | refine W.regionD tm lm_specs_ok rfl (by conv => lhs; simp [q3, q4, hwi]) (by conv => lhs; simp) (by kernel_rfl) fun _ => ?_)
            exact ⟨⟨(i + 1, false, _), hil, fun e => hs e, h1, h2⟩, by dsimp only; omega, AS.le_of rfl ⟨rfl, rfl, rfl, rfl, rfl, rfl, rfl, rfl, rfl, rfl, rfl, trivial⟩ (fun _ => rfl)⟩
          | true =>
            by_cases hix : i < x.length
            · obtain ⟨z, hz⟩ := get_lt hix
              have q5 : (i : Int) < x.length := by omega
              have q6 : ¬ x.length ≤ i := by omega
              repeat (first | refine N.seq ?_ | refine N.blk ?_ | refine W.seq rfl ?_ | refine W.block rfl ?_ | refine W.skip rfl ?_ | refine W.ret rfl ?_ | refine N.nil ?_ | refine N.loop ?_ | refine W.exit rfl ?_ | refine X.seq ?_ | refine X.loop ?_ | refine X.hit ?_ | refine X.pass (by decide) ?_ | refine W.condT rfl (by rfl) ?_ | refine W.condF rfl (by rfl) ?_ | refine W.region tm lm_specs_ok rfl (by conv => lhs; simp [q3, q4, q5, q6, hwi, hy, hz, Pn.cells, uc]) fun _ => ?_ | refine W.regionD tm lm_specs_ok rfl (by conv => lhs; simp [q3, q4, q5, q6, hwi, hy, hz, Pn.cells, uc]) (by conv => lhs; simp) (by kernel_rfl) fun _ => ?_)
              exact ⟨⟨(i + 1, id == z, _), hil, fun e => by subst e; rw [hid] at hz; cases hz; simp, h1, h2⟩, by dsimp only; omega, AS.le_of rfl ⟨rfl, rfl, rfl, rfl, rfl, rfl, rfl, rfl, rfl, rfl, rfl, trivial⟩ (fun _ => rfl)⟩
            · have q5 : ¬ (i : Int) < x.length := by omega
              have q6 : ¬ i < x.length := by omega
              have q7 : x.length ≤ i := by omega
              repeat (first | refine N.seq ?_ | refine N.blk ?_ | refine W.seq rfl ?_ | refine W.block rfl ?_ | refine W.skip rfl ?_ | refine W.ret rfl ?_ | refine N.nil ?_ | refine N.loop ?_ | refine W.exit rfl ?_ | refine X.seq ?_ | refine X.loop ?_ | refine X.hit ?_ | refine X.pass (by decide) ?_ | refine W.condT rfl (by rfl) ?_ | refine W.condF rfl (by rfl) ?_ | refine W.region tm lm_specs_ok rfl (by conv => lhs; simp [q3, q4, q5, q6, q7, hwi]) fun _ => ?_ | refine W.regionD tm lm_specs_ok rfl (by conv => lhs; simp [q3, q4, q5, q6, q7, hwi]) (by conv => lhs; simp) (by kernel_rfl) fun _ => ?_)
              exact ⟨⟨(i + 1, false, _), hil, fun e => by subst e; omega, h1, h2⟩, by dsimp only; omega, AS.le_of rfl ⟨rfl, rfl, rfl, rfl, rfl, rfl, rfl, rfl, rfl, rfl, rfl, trivial⟩ (fun _ => rfl)⟩
noncomputable def movS : SpecFn := mkS encLM fun _ => (.bool true, [])
theorem mov_ok : FnC Try.prog 6 movS := by
  refine FnC.walk 6 (fn := Try.f6) Try.func6 rfl (by kernel_rfl) fun x => ?_
  obtain ⟨L, M, hL, hM⟩ := x
  change W _ (Ret _ _ (.bool true) []) _ _ ⟨165, [(0, .list 1 (L.map ic)), (1, .list 1 (M.map ic))], []⟩
  exact moves_walk (made2 L M) (isP_plP L) (placesS_eq L hL) (groupsS_eq M hM 1 (nds L) (plP L) (plR L).1 (isP_plP L) (by have := nds_len L; omega) (by have := plR_len L; omega))
end Go.Abs.Po
namespace Go.Abs.Po
open Go Go.Proofs Go.Abs
set_option maxRecDepth 100000
set_option linter.unusedSimpArgs false
set_option linter.unusedVariables false
/-! ### Groups have no member in common -/
def Dj (gs : List (List Int)) : Prop := ∀ (i j : Nat) g h, i ≠ j → gs[i]? = some g → gs[j]? = some h → ∀ x ∈ g, x ∉ h
theorem insU_perm (l : List Int) (x : Int) : List.Perm (insU l x) (x :: l) := by
  unfold insU
  refine List.perm_middle.trans ?_
  rw [List.take_append_drop]
theorem ordd_perm (l : List Int) : List.Perm (ordd l) l := by
  have key : ∀ (l acc : List Int), List.Perm (l.foldl insU acc) (acc ++ l) := by
    intro l
    induction l with
    | nil => intro acc; simp
    | cons x r ih =>
      intro acc
      rw [List.foldl_cons]
      refine (ih _).trans ?_
      refine ((insU_perm acc x).append_right r).trans ?_
      exact List.perm_middle.symm
  have := key l []
  rw [List.nil_append] at this
  exact this
theorem mem_ordd {l : List Int} {x : Int} : x ∈ ordd l ↔ x ∈ l := (ordd_perm l).mem_iff
theorem has_mem {l : List Int} {y : Int} : has l y = true ↔ y ∈ l := by
  induction l with
  | nil => simp [has]
  | cons x r ih =>
    simp only [has, List.mem_cons]
    split
    · rename_i e; simp [e]
    · rename_i e
      rw [ih]
      simp [Ne.symm e]
theorem add1_nodup {l : List Int} {y : Int} (h : l.Nodup) : (add1 l y).Nodup := by
  unfold add1
  split
  · exact h
  · rename_i hn
    rw [not_or, has_mem] at hn
    rw [List.nodup_append]
    refine ⟨h, by simp, fun a ha b hb => ?_⟩
    simp only [List.mem_singleton] at hb
    subst hb
    exact fun e => hn.2 (e ▸ ha)
theorem allP_nodup (ps : List Int) : (allP ps).Nodup := by
  have key : ∀ (l acc : List Int), acc.Nodup → (l.foldl add1 acc).Nodup := by
    intro l
    induction l with
    | nil => intro acc h; exact h
    | cons x r ih => intro acc h; exact ih _ (add1_nodup h)
  exact key ps [] List.nodup_nil
theorem dj_one {l : List Int} (h : l.Nodup) : Dj (l.map one) := by
  intro i j g h' hij hi hj x hx hx'
  rw [List.getElem?_map, Option.map_eq_some_iff] at hi hj
  obtain ⟨a, ha, rfl⟩ := hi
  obtain ⟨b, hb, rfl⟩ := hj
  simp only [one, List.mem_singleton] at hx hx'
  subst hx
  subst hx'
  exact hij ((List.getElem?_inj (List.getElem?_eq_some_iff.1 ha).1 h).1 (ha.trans hb.symm))
theorem dj_join {gs : List (List Int)} (hd : Dj gs) {i j : Nat} (hij : i ≠ j) (C : List Int) (hC : ∀ x ∈ C, x ∈ (gs[i]?).getD [] ∨ x ∈ (gs[j]?).getD []) : Dj ((gs.set i C).take j ++ (gs.set i C).drop (j + 1)) := by
  have key : ∀ (k : Nat) g, ((gs.set i C).take j ++ (gs.set i C).drop (j + 1))[k]? = some g → ∃ k', k' ≠ j ∧ (gs.set i C)[k']? = some g ∧ k' = if k < j then k else k + 1 := by
    intro k g hk
    rw [← List.eraseIdx_eq_take_drop_succ, List.getElem?_eraseIdx] at hk
    split at hk
    · rename_i e; exact ⟨k, by omega, hk, by simp [e]⟩
    · rename_i e; exact ⟨k + 1, by omega, hk, by simp [e]⟩
  have key2 : ∀ (k l : Nat) g h, k ≠ l → k ≠ j → l ≠ j → (gs.set i C)[k]? = some g → (gs.set i C)[l]? = some h → ∀ x ∈ g, x ∉ h := by
    intro k l g h hkl hk hl hg hh x hx hx'
    rw [List.getElem?_set] at hg hh
    have mem : ∀ {m : Nat} {y : Int}, y ∈ (gs[m]?).getD [] → ∃ g, gs[m]? = some g ∧ y ∈ g := by
      intro m y hy
      cases e : gs[m]? with
      | none => rw [e] at hy; simp at hy
      | some g => rw [e] at hy; exact ⟨g, rfl, by simpa using hy⟩
    split at hg
    · rename_i e1
      subst e1
      split at hg
      · cases hg
        rw [if_neg hkl] at hh
        rcases hC x hx with h1 | h1
        · obtain ⟨A, hA, hxA⟩ := mem h1
          exact hd i l A h hkl hA hh x hxA hx'
        · obtain ⟨B, hB, hxB⟩ := mem h1
          exact hd j l B h (Ne.symm hl) hB hh x hxB hx'
      · cases hg
    · split at hh
      · rename_i e1
        subst e1
        split at hh
        · cases hh
          rcases hC x hx' with h1 | h1
          · obtain ⟨A, hA, hxA⟩ := mem h1
            exact hd k i g A hkl hg hA x hx hxA
          · obtain ⟨B, hB, hxB⟩ := mem h1
            exact hd k j g B hk hg hB x hx hxB
        · cases hh
      · exact hd k l g h hkl hg hh x hx hx'
  intro k l g h hkl hg hh
  obtain ⟨k', k1, k2, k3⟩ := key k g hg
  obtain ⟨l', l1, l2, l3⟩ := key l h hh
  refine key2 k' l' g h ?_ k1 l1 k2 l2
  rw [k3, l3]
  split <;> split <;> omega
theorem dj_step {gs : List (List Int)} (hd : Dj gs) (t : Tk) : Dj (gstep gs t) := by
  unfold gstep
  dsimp only
  rcases whr_lt gs t.a 0 with ha | ha
  · rw [if_pos (.inl (by omega))]; exact hd
  rcases whr_lt gs t.b 0 with hb | hb
  · rw [if_pos (.inr (.inl (by omega)))]; exact hd
  split
  · exact hd
  · split
    · exact hd
    · rename_i h1 _
      simp only [not_or] at h1
      split
      · refine dj_join hd (by omega) _ fun x hx => ?_
        rw [mem_ordd, List.mem_append] at hx
        exact hx
      · refine dj_join hd (by omega) _ fun x hx => ?_
        rw [mem_ordd, List.mem_append] at hx
        exact hx
theorem grps_dj (T : List Tk) (m : Int) (ps : List Int) : Dj (grps T m ps) := by
  have key : ∀ (l : List Tk) (gs : List (List Int)), Dj gs → Dj (l.foldl gstep gs) := by
    intro l
    induction l with
    | nil => exact fun gs h => h
    | cons t r ih => exact fun gs h => ih _ (dj_step h t)
  exact key _ _ (dj_one ((ordd_perm _).nodup_iff.2 (allP_nodup ps)))
theorem Dj.mem {gs : List (List Int)} (h : Dj gs) {g g' : List Int} (hg : g ∈ gs) (hg' : g' ∈ gs) : g = g' ∨ ∀ x ∈ g, x ∉ g' := by
  obtain ⟨i, hi⟩ := List.mem_iff_getElem?.1 hg
  obtain ⟨j, hj⟩ := List.mem_iff_getElem?.1 hg'
  by_cases e : i = j
  · subst e
    rw [hi] at hj
    cases hj
    exact .inl rfl
  · exact .inr (h i j g g' e hi hj)
/-! ### Few processes -/
def cs (pl : List Pl) : List Int → Nat
  | [] => 0
  | n :: r => cnt pl n + cs pl r
theorem cs_cons (x : Pl) (pl : List Pl) : ∀ l : List Int, cs (x :: pl) l = cs pl l + l.count x.n
  | [] => rfl
  | n :: r => by
    have ih := cs_cons x pl r
    simp only [cs, cnt, ih, List.count_cons]
    by_cases e : x.n = n
    · simp [e]; omega
    · simp [e, Ne.symm e]; omega
theorem cs_le {l : List Int} (h : l.Nodup) : ∀ pl : List Pl, cs pl l ≤ pl.length
  | [] => by
    have : ∀ l : List Int, cs [] l = 0 := by
      intro l
      induction l with
      | nil => rfl
      | cons n r ih => simp [cs, cnt, ih]
    simp [this]
  | x :: pl => by
    have := cs_le h pl
    have h1 := List.nodup_iff_count.1 h x.n
    rw [cs_cons, List.length_cons]
    omega
theorem sq_cs {pl : List Pl} {c : Nat} (h : pl.length ≤ c) : ∀ l : List Int, sq pl l ≤ c * cs pl l
  | [] => by simp [sq]
  | n :: r => by
    have h1 := cnt_le pl n
    have h2 : cnt pl n * cnt pl n ≤ c * cnt pl n := Nat.mul_le_mul_right _ (by omega)
    have := sq_cs h r
    simp only [sq, cs, Nat.mul_add]
    omega
theorem Made2.sq {nodes : List Int} {pl : List Pl} {gs : List (List Int)} {t : Tm} (h : Made2 nodes pl gs t) : sq pl nodes ≤ 196 := by
  have h1 := cs_le h.nd pl
  have h2 := sq_cs h.hl nodes
  have := h.hl
  omega
/-! ### Settling -/
def Tog (pl : List Pl) (g : List Int) : Prop := ∀ x ∈ g, (plc pl x).2 = true ∧ plc pl x = plc pl (g.headD 0)
structure Setd (nodes : List Int) (gs : List (List Int)) (t : Tm) (pl r : List Pl) : Prop where
  made : Made2 nodes r gs t
  ids : r.map (·.p) = pl.map (·.p)
  most : ∀ c, (∀ n ∈ nodes, cnt pl n ≤ c) → ∀ n ∈ nodes, cnt r n ≤ c
  tog : Dj gs → ∀ g ∈ gs, Tog pl g → Tog r g
theorem set_step {nodes : List Int} {gs : List (List Int)} {pl : List Pl} {t : Tm} (hm : Made2 nodes pl gs t) {g : List Int} {f u : Int} (hp : Plan nodes gs pl t g f u) :
    Setd nodes gs t pl (car pl (mvs g f u)) := by
  obtain ⟨d, hd1, hd⟩ := moved hm.srt hp
  have hgap := hp.gap
  unfold gap at hgap
  have h4 := hd.dl
  have h5 := hd.cf
  have h6 := hd.cu
  have hlen : (car pl (mvs g f u)).length = pl.length := by have := congrArg List.length hd.ids; simpa using this
  refine ⟨⟨⟨hm.hn, hd.srt.un, by have := hm.hl; omega, hm.hg, hm.hg', hm.ht⟩, hm.nd, hd.srt⟩, hd.ids, fun c hc n hn => ?_, fun hdj g' hg' ht x hx => ?_⟩
  · have hf := hc f hp.hf
    by_cases e1 : n = f
    · subst e1; omega
    · by_cases e2 : n = u
      · subst e2; omega
      · rw [hd.co n e1 e2]; exact hc n hn
  · have hhd : g'.headD 0 ∈ g' := by
      match g', hx with
      | a :: r, _ => simp
    rw [hd.at_, hd.at_]
    rcases hdj.mem hg' hp.mem with rfl | hno
    · rw [if_pos hx, if_pos hhd]; exact ⟨rfl, rfl⟩
    · rw [if_neg (hno x hx), if_neg (hno _ hhd)]
      exact ht x hx
theorem Setd.trans {nodes : List Int} {gs : List (List Int)} {pl r s : List Pl} {t : Tm} (h1 : Setd nodes gs t pl r) (h2 : Setd nodes gs t r s) : Setd nodes gs t pl s :=
  ⟨h2.made, h2.ids.trans h1.ids, fun c hc => h2.most c (h1.most c hc), fun hd g hg ht => h2.tog hd g hg (h1.tog hd g hg ht)⟩
theorem setl_some {nodes : List Int} {gs : List (List Int)} {t : Tm} : ∀ (F : Nat) {pl : List Pl} (n : Nat), Made2 nodes pl gs t → Po.sq pl nodes < 2 * F →
    ∃ r m, setl nodes gs t F pl n = some (r, m) ∧ 2 * m + Po.sq r nodes ≤ 2 * n + Po.sq pl nodes ∧ dec (lds nodes r) gs r t = [] ∧ Setd nodes gs t pl r
  | 0, _, _, _, h => by omega
  | F + 1, pl, n, hm, h => by
    rcases dec_cases nodes gs (pl := pl) (by have := hm.hl; omega) t hm.ht with he | ⟨g, f, u, hp⟩
    · refine ⟨pl, n, by simp only [setl, he, if_true], Nat.le_refl _, he, ⟨hm, rfl, fun _ h => h, fun _ _ _ h => h⟩⟩
    · have hpe : dec (lds nodes pl) gs pl t = mvs g f u := hp.eq
      have hne : mvs g f u ≠ [] := by simpa [mvs] using hp.ne
      have hsq := moved_sq hm.srt hm.nd hp
      have hst := set_step hm hp
      obtain ⟨r, m, h1, h2, h3, h4⟩ := setl_some F (n + 1) hst.made (by omega)
      refine ⟨r, m, ?_, by omega, h3, hst.trans h4⟩
      simp only [setl]
      rw [hpe, if_neg hne, if_neg (by
        have := hm.hl
        have := hm.hg' g hp.mem
        simp only [mvs, List.length_map]
        omega)]
      exact h1
theorem settled {nodes : List Int} {gs : List (List Int)} {t : Tm} {pl : List Pl} (hm : Made2 nodes pl gs t) :
    ∃ r m, setl nodes gs t 1000 pl 0 = some (r, m) ∧ m ≤ 98 ∧ dec (lds nodes r) gs r t = [] ∧ setl nodes gs t 1000 r 0 = some (r, 0) ∧ Setd nodes gs t pl r := by
  have h1 := hm.sq
  obtain ⟨r, m, a, b, c, d⟩ := setl_some 1000 0 hm (by omega)
  refine ⟨r, m, a, by omega, c, ?_, d⟩
  rw [setl, c]
  rfl
theorem gRes_dj (M : List Int) (pl : List Pl) : Dj (gRes M pl) := grps_dj _ _ _
end Go.Abs.Po
namespace Go.Abs.Po
open Go Go.Proofs Go.Abs
set_option maxRecDepth 100000
set_option maxHeartbeats 4000000
set_option linter.unusedSimpArgs false
set_option linter.unusedVariables false
/-! ### Whether a group is together -/
def tg1 (pl : List Pl) (g : List Int) (x : Int) : Bool := (plc pl x).2 && (plc pl (g.headD 0)).2 && (plc pl x).1 == (plc pl (g.headD 0)).1
def togB (pl : List Pl) (g : List Int) : Bool := g.all (tg1 pl g)
theorem togB_iff (pl : List Pl) (g : List Int) : togB pl g = true ↔ Tog pl g := by
  unfold togB Tog
  rw [List.all_eq_true]
  constructor
  · intro h x hx
    have := h x hx
    simp only [tg1, Bool.and_eq_true, beq_iff_eq] at this
    obtain ⟨⟨h1, h2⟩, h3⟩ := this
    exact ⟨h1, Prod.ext h3 (h1.trans h2.symm)⟩
  · intro h x hx
    obtain ⟨h1, h2⟩ := h x hx
    simp only [tg1, Bool.and_eq_true, beq_iff_eq]
    rw [← h2]
    exact ⟨⟨h1, h1⟩, rfl⟩
attribute [local simp] runL stepA execA_eq skipA run_ret run_fail run_get run_put run_asm num lk st lk_st putA AS.ev ofValue ofFlat mkv splice fieldAddrA buildA fillA runF gdst pickA unOpA extractA resVs resV pack frzT inlT inlV frzV frzVs frzL frz1 newId AV.cellsOf AV.flat AV.flat2 specOf loadA_runR capA copyA copyTo srcA sliceCA slice3A appendZA extA AV.place lenCA clearA clearTo expG expB3 List.zipWith renL fF handB renB AV.ren backF backL idsOf freshIds refsL refsB AV.refs List.range List.range.loop placesA sliceRows rowsOf convertA sliceArrA sliceA bndA nilCheckA arrayAtA mmA lookupA keyOf keyOK findA keyEqA foundA makeMapA mapUpdateA appendA rowsA indexA partA fieldA retE2 frqT frqV frqVs frqL frq1 reachE blkRefs outE nodupE firstE seqO expB2 expF instA take_len_map List.findIdx?_cons List.findIdx?_nil
noncomputable def tg_specs : NL Spec := [(22, ⟨1, plcrS⟩)]
theorem tg_specs_ok : ∀ p ∈ tg_specs, FnC Try.prog p.1 p.2.fn := by
  simp only [tg_specs, List.mem_cons, List.not_mem_nil, or_false]
  rintro p rfl
  exact plcr_ok
attribute [local simp] tg_specs
def VgI := { x : Vt × List Int // x.2.length ≤ 200 }
def encVg (x : VgI) : List AV := [x.1.1.av, .list 1 (x.1.2.map uc)]
theorem encVg_inj {β : Type} {f : VgI → β} : ∀ x y, encVg x = encVg y → f x = f y := fun x y h => by
  simp only [encVg, List.cons.injEq, AV.list.injEq, true_and, and_true] at h
  rw [Subtype.ext (Prod.ext (Vt.inj _ _ h.1) (map_inj uc_inj h.2))]
noncomputable def tgS : SpecFn := mkS encVg fun x => (.bool (togB x.1.1.pl x.1.2), [])
theorem tgS_eq (view : Int) (nodes : List Int) (P : AV) (pl : List Pl) (g : List Int) (hP : IsP P pl) (hn : nodes.length ≤ 8) (hl : pl.length ≤ 200) (hg : g.length ≤ 200) :
    tgS [.agg [.int .i64 view, .list 1 (nodes.map ic), .nils, P, .nils, .nils], .list 1 (g.map uc)] [] = some (.bool (togB pl g), []) :=
  mkS_eq (enc := encVg) encVg_inj ⟨(⟨view, nodes, P, pl, hP, hn, hl⟩, g), hg⟩
theorem tg_ok : FnC Try.prog 20 tgS := by
  refine FnC.walk 20 (fn := Try.f20) Try.func20 rfl (by kernel_rfl) fun x => ?_
  obtain ⟨⟨⟨view, nodes, P, pl, hP, hn, hl⟩, g⟩, hg⟩ := x
  dsimp only at hg ⊢
  refine W.weak (σ' := ⟨43, [(0, .agg (vA view nodes (.list 2 (pl.map Pl.cells)))), (1, .list 1 (g.map uc))], []⟩) (le_head (vA_weak hP.weak)) ?_
  clear hP P
  have hPl := fun id => plcrS_eq view nodes (.list 2 (pl.map Pl.cells)) pl id (isP_plL pl) hn hl
  repeat (first | refine N.seq ?_ | refine N.blk ?_ | refine W.seq rfl ?_ | refine W.block rfl ?_ | refine W.skip rfl ?_ | refine W.ret rfl ?_ | refine N.nil ?_ | refine N.loop ?_ | refine W.exit rfl ?_ | refine X.seq ?_ | refine X.loop ?_ | refine X.hit ?_ | refine X.pass (by decide) ?_ | refine W.condT rfl (by rfl) ?_ | refine W.condF rfl (by rfl) ?_ | refine W.region tm tg_specs_ok rfl (by conv => lhs; simp [vA]) fun _ => ?_ | refine W.regionD tm tg_specs_ok rfl (by conv => lhs; simp [vA]) (by conv => lhs; simp) (by kernel_rfl) fun _ => ?_)
  refine W.loop rfl (ι := { q : Nat × NL ABlk // q.1 ≤ g.length ∧ togB pl g = (g.drop q.1).all (tg1 pl g) ∧ lk q.2 48 = some (vB view nodes (.list 2 (pl.map Pl.cells))) })
    (fun q => ⟨43, [(1, .list 1 (g.map uc)), (2, .ptr 48 1 0 0), (11, .list 1 (g.map uc)), (12, .int .i64 g.length), (13, .int .i64 (q.1.1 : Nat))], q.1.2⟩) (fun q => g.length - q.1.1)
    ⟨(0, _), by simp, by simp [togB], by rfl⟩ (AS.le_of rfl ⟨rfl, rfl, rfl, rfl, rfl, trivial⟩ (fun _ => rfl)) ?_
  rintro ⟨⟨k, h⟩, hk, ht, h1⟩
  dsimp only at hk ht h1 ⊢
  rw [ht]
  by_cases hk2 : k = g.length
  · subst hk2
    rw [List.drop_length]
    repeat (first | refine N.seq ?_ | refine N.blk ?_ | refine W.seq rfl ?_ | refine W.block rfl ?_ | refine W.skip rfl ?_ | refine W.ret rfl ?_ | refine N.nil ?_ | refine N.loop ?_ | refine W.exit rfl ?_ | refine X.seq ?_ | refine X.loop ?_ | refine X.hit ?_ | refine X.pass (by decide) ?_ | refine W.condT rfl (by rfl) ?_ | refine W.condF rfl (by rfl) ?_ | refine W.region tm tg_specs_ok rfl (by conv => lhs; simp) fun _ => ?_ | refine W.regionD tm tg_specs_ok rfl (by conv => lhs; simp) (by conv => lhs; simp) (by kernel_rfl) fun _ => ?_)
    simp only [List.all_nil]
    first | exact Ret.dataR rfl (by conv => lhs; simp) (by conv => lhs; simp) (by first | rfl | simp [inlT, inlV]) | fail "no return here"
  · have hlt : k < g.length := by omega
    obtain ⟨x, hx⟩ := get_lt hlt
    obtain ⟨y, hy⟩ := get_lt (l := g) (i := 0) (by omega)
    have q1 : (k : Int) < g.length := by omega
    have q2 : ¬ g.length ≤ k := by omega
    have q3 : ¬ g = [] := by intro e; subst e; simp at hx
    have hw := w64_succ hlt (capX hg)
    have hp1 := hPl x
    have hp2 := hPl y
    have hhd : g.headD 0 = y := by
      match g, hy with
      | a :: r, hy => simpa using hy
    rw [dropG hx, List.all_cons]
    have hT : tg1 pl g x = ((plc pl x).2 && (plc pl y).2 && (plc pl x).1 == (plc pl y).1) := by rw [tg1, hhd]
    rw [hT]
    generalize plc pl x = a at hp1 hT ⊢
    generalize plc pl y = b at hp2 hT ⊢
    obtain ⟨a1, a2⟩ := a
    obtain ⟨b1, b2⟩ := b
    dsimp only at hp1 hp2 hT ⊢
    cases a2 with
    | false =>
      repeat (first | refine N.seq ?_ | refine N.blk ?_ | refine W.seq rfl ?_ | refine W.block rfl ?_ | refine W.skip rfl ?_ | refine W.ret rfl ?_ | refine N.nil ?_ | refine N.loop ?_ | refine W.exit rfl ?_ | refine X.seq ?_ | refine X.loop ?_ | refine X.hit ?_ | refine X.pass (by decide) ?_ | refine W.condT rfl (by rfl) ?_ | refine W.condF rfl (by rfl) ?_ | refine W.region tm tg_specs_ok rfl (by conv => lhs; simp [h1, vB, vA, q1, q2, q3, hx, hy, uc, hp1, hp2]) fun _ => ?_ | refine W.regionD tm tg_specs_ok rfl (by conv => lhs; simp [h1, vB, vA, q1, q2, q3, hx, hy, uc, hp1, hp2]) (by conv => lhs; simp) (by kernel_rfl) fun _ => ?_)
      simp only [Bool.false_and]
      first | exact Ret.dataR rfl (by conv => lhs; simp) (by conv => lhs; simp) (by first | rfl | simp [inlT, inlV]) | fail "no return here"
    | true =>
      cases b2 with
      | false =>
        repeat (first | refine N.seq ?_ | refine N.blk ?_ | refine W.seq rfl ?_ | refine W.block rfl ?_ | refine W.skip rfl ?_ | refine W.ret rfl ?_ | refine N.nil ?_ | refine N.loop ?_ | refine W.exit rfl ?_ | refine X.seq ?_ | refine X.loop ?_ | refine X.hit ?_ | refine X.pass (by decide) ?_ | refine W.condT rfl (by rfl) ?_ | refine W.condF rfl (by rfl) ?_ | refine W.region tm tg_specs_ok rfl (by conv => lhs; simp [h1, vB, vA, q1, q2, q3, hx, hy, uc, hp1, hp2]) fun _ => ?_ | refine W.regionD tm tg_specs_ok rfl (by conv => lhs; simp [h1, vB, vA, q1, q2, q3, hx, hy, uc, hp1, hp2]) (by conv => lhs; simp) (by kernel_rfl) fun _ => ?_)
        simp only [Bool.and_false, Bool.false_and]
        first | exact Ret.dataR rfl (by conv => lhs; simp) (by conv => lhs; simp) (by first | rfl | simp [inlT, inlV]) | fail "no return here"
      | true =>
        by_cases e : a1 = b1
        · subst e
          repeat (first | refine N.seq ?_ | refine N.blk ?_ | refine W.seq rfl ?_ | refine W.block rfl ?_ | refine W.skip rfl ?_ | refine W.ret rfl ?_ | refine N.nil ?_ | refine N.loop ?_ | refine W.exit rfl ?_ | refine X.seq ?_ | refine X.loop ?_ | refine X.hit ?_ | refine X.pass (by decide) ?_ | refine W.condT rfl (by rfl) ?_ | refine W.condF rfl (by rfl) ?_ | refine W.region tm tg_specs_ok rfl (by conv => lhs; simp [h1, vB, vA, q1, q2, q3, hx, hy, uc, hp1, hp2, hw]) fun _ => ?_ | refine W.regionD tm tg_specs_ok rfl (by conv => lhs; simp [h1, vB, vA, q1, q2, q3, hx, hy, uc, hp1, hp2, hw]) (by conv => lhs; simp) (by kernel_rfl) fun _ => ?_)
          exact ⟨⟨(k + 1, _), hlt, by simp, by simp [lk_st, h1, vB, vA]⟩, by dsimp only; omega, AS.le_of rfl ⟨rfl, rfl, rfl, rfl, rfl, trivial⟩ (fun _ => rfl)⟩
        · have e' : (a1 == b1) = false := by simpa using e
          repeat (first | refine N.seq ?_ | refine N.blk ?_ | refine W.seq rfl ?_ | refine W.block rfl ?_ | refine W.skip rfl ?_ | refine W.ret rfl ?_ | refine N.nil ?_ | refine N.loop ?_ | refine W.exit rfl ?_ | refine X.seq ?_ | refine X.loop ?_ | refine X.hit ?_ | refine X.pass (by decide) ?_ | refine W.condT rfl (by rfl) ?_ | refine W.condF rfl (by rfl) ?_ | refine W.region tm tg_specs_ok rfl (by conv => lhs; simp [h1, vB, vA, q1, q2, q3, hx, hy, uc, hp1, hp2]) fun _ => ?_ | refine W.regionD tm tg_specs_ok rfl (by conv => lhs; simp [h1, vB, vA, q1, q2, q3, hx, hy, uc, hp1, hp2]) (by conv => lhs; simp) (by kernel_rfl) fun _ => ?_)
          refine W.cond rfl (by rfl) (fun hb2 => ?_) (fun hb2 => ?_)
          · repeat (first | refine N.seq ?_ | refine N.blk ?_ | refine W.seq rfl ?_ | refine W.block rfl ?_ | refine W.skip rfl ?_ | refine W.ret rfl ?_ | refine N.nil ?_ | refine N.loop ?_ | refine W.exit rfl ?_ | refine X.seq ?_ | refine X.loop ?_ | refine X.hit ?_ | refine X.pass (by decide) ?_ | refine W.condT rfl (by rfl) ?_ | refine W.condF rfl (by rfl) ?_ | refine W.region tm tg_specs_ok rfl (by conv => lhs; simp) fun _ => ?_ | refine W.regionD tm tg_specs_ok rfl (by conv => lhs; simp) (by conv => lhs; simp) (by kernel_rfl) fun _ => ?_)
            simp only [e', Bool.and_false, Bool.false_and]
            first | exact Ret.dataR rfl (by conv => lhs; simp) (by conv => lhs; simp) (by first | rfl | simp [inlT, inlV]) | fail "no return here"
          · exact absurd hb2 (by simpa using e)
/-! ### The law -/
noncomputable def ls_specs : NL Spec := [(7, ⟨0, saneS⟩), (8, ⟨1, placesS⟩), (9, ⟨1, groupsS⟩), (10, ⟨1, countrS⟩), (12, ⟨1, decS⟩), (18, ⟨1, setS⟩), (15, ⟨0, smS⟩), (20, ⟨0, tgS⟩)]
theorem ls_specs_ok : ∀ p ∈ ls_specs, FnC Try.prog p.1 p.2.fn := by
  simp only [ls_specs, List.mem_cons, List.not_mem_nil, or_false]
  rintro p (rfl | rfl | rfl | rfl | rfl | rfl | rfl | rfl)
  · exact sane_ok
  · exact places_ok
  · exact groups_ok
  · exact countr_ok
  · exact dec_ok
  · exact set_ok
  · exact sm_ok
  · exact tg_ok
attribute [local simp] runL stepA execA_eq skipA run_ret run_fail run_get run_put run_asm num lk st lk_st putA AS.ev ofValue ofFlat mkv splice fieldAddrA buildA fillA runF gdst pickA unOpA extractA resVs resV pack frzT inlT inlV frzV frzVs frzL frz1 newId AV.cellsOf AV.flat AV.flat2 specOf loadA_runR capA copyA copyTo srcA sliceCA slice3A appendZA extA AV.place lenCA clearA clearTo expG expB3 List.zipWith renL fF handB renB AV.ren backF backL idsOf freshIds refsL refsB AV.refs List.range List.range.loop placesA sliceRows rowsOf convertA sliceArrA sliceA bndA nilCheckA arrayAtA mmA lookupA keyOf keyOK findA keyEqA foundA makeMapA mapUpdateA appendA rowsA indexA partA fieldA retE2 frqT frqV frqVs frqL frq1 reachE blkRefs outE nodupE firstE seqO expB2 expF instA take_len_map List.findIdx?_cons List.findIdx?_nil ls_specs saneS_eq
theorem set_walk {nodes : List Int} {pl : List Pl} {gs : List (List Int)} {hi : Int} {P : AV} {L M : List Int} (hm : Made2 nodes pl gs ⟨hi, 0, 3⟩) (hdj : Dj gs) (hIP : IsP P pl)
    (hP : placesS [.list 1 (L.map ic)] [] = some (.tup [.agg [.int .i64 1, .list 1 (nodes.map ic), .nils, P, .nils, .nils], .agg [.int .i64 hi, .int .i64 0, .int .i64 3]], []))
    (hG : groupsS [.list 1 (M.map ic), .agg [.int .i64 1, .list 1 (nodes.map ic), .nils, P, .nils, .nils]] [] = some (.list 1 (gs.map gL), [])) :
    W Try.prog (Ret Try.prog Try.f4 (.bool true) []) (codeOf Try.f4) [] ⟨138, [(0, .list 1 (L.map ic)), (1, .list 1 (M.map ic))], []⟩ := by
  have n1 : nodes.length ≤ 8 := by have := hm.hn; omega
  have n1' : nodes.length ≤ 200 := by omega
  have n2 : pl.length ≤ 200 := by have := hm.hl; omega
  have n3 : ∀ T, (lds nodes T).length ≤ 200 := fun T => by simp [lds]; omega
  have n5 : gs.length ≤ 400 := by have := hm.hg; omega
  have n6 : ∀ g ∈ gs, g.length ≤ 400 := fun g hg => by have := hm.hg' g hg; omega
  obtain ⟨r, m, hr, hm98, hde, hr2, hst⟩ := settled hm
  have hrl : r.length = pl.length := by have := congrArg List.length hst.ids; simpa using this
  have n7 : r.length ≤ 200 := by omega
  have hC := countrS_eq 1 nodes P pl hIP n1 n2
  have hC2 := countrS_eq 1 nodes (.list 2 (r.map Pl.cells)) r (isP_plL r) n1 n7
  have hT := setS_eq 1 nodes P pl hIP n1 n2 gs n5 n6 ⟨hi, 0, 3⟩ _ hr
  have hT2 := setS_eq 1 nodes (.list 2 (r.map Pl.cells)) r (isP_plL r) n1 n7 gs n5 n6 ⟨hi, 0, 3⟩ _ hr2
  have hD := decS_eq (lds nodes r) (n3 r) gs n5 n6 1 nodes (.list 2 (r.map Pl.cells)) r (isP_plL r) n1 n7 ⟨hi, 0, 3⟩
  have hS := smS_eq 1 nodes (plL r) (plL r) r (isP_plL r) (isP_plL r) n1 n7
  have hG1 := fun (g : List Int) (h : g.length ≤ 200) => tgS_eq 1 nodes P pl g hIP n1 n2 h
  have hG2 := fun (g : List Int) (h : g.length ≤ 200) => tgS_eq 1 nodes (.list 2 (r.map Pl.cells)) r g (isP_plL r) n1 n7 h
  have hids : ∀ (k : Nat) x, pl[k]? = some x → ∃ y, r[k]? = some y ∧ y.p = x.p := fun k x h => by
    have := congrArg (fun l : List Int => l[k]?) hst.ids
    simp only [List.getElem?_map, h, Option.map_some, Option.map_eq_some_iff] at this
    exact this
  have htog : ∀ g ∈ gs, togB pl g = true → togB r g = true := fun g hg h => (togB_iff r g).2 (hst.tog hdj g hg ((togB_iff pl g).1 h))
  have hmost := hst.most
  have hcp := cnt_le pl
  have hcr := cnt_le r
  have hll : ∀ T, (lds nodes T).length = nodes.length := fun T => by simp [lds]
  have hld : ∀ T (k : Nat) x, nodes[k]? = some x → (lds nodes T)[k]? = some (ldOf T x) := fun T k x h => by rw [lds, List.getElem?_map, h]; rfl
  rw [hde] at hD
  simp only [pnV, if_true] at hD
  have m1 : ¬ (m : Int) < 0 := by omega
  have m2 : ¬ (100 : Int) < m := by omega
  have m3 : ¬ 100 < m := by omega
  dsimp only at hT hT2
  clear hr hr2 hst hde
  have hIP' : (P = .list 2 (pl.map Pl.cells) ∧ True) ∨ (P = .nils ∧ pl.length = 0) := hIP.imp (fun h => ⟨h, trivial⟩) (fun h => ⟨h.1, by rw [h.2]; rfl⟩)
  rcases hIP' with ⟨hIP, hpz⟩ | ⟨hIP, hpz⟩
  all_goals
    simp only [hIP, plL] at hP hG hC hT hS hG1
    repeat (first | refine N.seq ?_ | refine N.blk ?_ | refine W.seq rfl ?_ | refine W.block rfl ?_ | refine W.skip rfl ?_ | refine W.ret rfl ?_ | refine N.nil ?_ | refine N.loop ?_ | refine W.exit rfl ?_ | refine X.seq ?_ | refine X.loop ?_ | refine X.hit ?_ | refine X.pass (by decide) ?_ | refine W.condT rfl (by rfl) ?_ | refine W.condF rfl (by rfl) ?_ | refine W.region tm ls_specs_ok rfl (by conv => lhs; simp [hP, hG, hC, hT, hT2, hC2, hD, hS, m1, m2, m3, hrl, hpz]) fun _ => ?_ | refine W.regionD tm ls_specs_ok rfl (by conv => lhs; simp [hP, hG, hC, hT, hT2, hC2, hD, hS, m1, m2, m3, hrl, hpz]) (by conv => lhs; simp) (by kernel_rfl) fun _ => ?_)
    have g1 := hld pl
    have l1 := hll pl
    rw [l1]
    generalize lds nodes pl = LL at g1 l1 ⊢
    refine W.loop rfl (ι := { q : Nat × Nat × NL ABlk // q.1 ≤ nodes.length ∧ (∀ n ∈ nodes.take q.1, cnt pl n ≤ q.2.1) ∧ lk q.2.2 96 = some (vB 1 nodes P) ∧ lk q.2.2 144 = some (vB 1 nodes (plL r)) })
      (fun q => ⟨138, [(5, .ptr 96 1 0 0), (7, .list 1 (gs.map gL)), (8, .ptr 144 1 0 0), (12, .int .i64 (q.1.2.1 : Nat)), (81, .list 3 (LL.map Ld.cells)), (82, .int .i64 nodes.length), (83, .int .i64 (q.1.1 : Nat))], q.1.2.2⟩) (fun q => nodes.length - q.1.1)
      ⟨(0, 0, _), by simp, by simp, by simp [lk_st, lk, vB, vA, hIP], by simp [lk_st, lk, vB, vA, plL]⟩ (AS.le_of rfl ⟨rfl, rfl, rfl, rfl, rfl, rfl, rfl, trivial⟩ (fun _ => rfl)) ?_
    rintro ⟨⟨k, c, h⟩, hk, hc, h1, h2⟩
    dsimp only at hk hc h1 h2 ⊢
    by_cases hk2 : k = nodes.length
    · subst hk2
      rw [List.take_length] at hc
      have hmc := hmost c hc
      repeat (first | refine N.seq ?_ | refine N.blk ?_ | refine W.seq rfl ?_ | refine W.block rfl ?_ | refine W.skip rfl ?_ | refine W.ret rfl ?_ | refine N.nil ?_ | refine N.loop ?_ | refine W.exit rfl ?_ | refine X.seq ?_ | refine X.loop ?_ | refine X.hit ?_ | refine X.pass (by decide) ?_ | refine W.condT rfl (by rfl) ?_ | refine W.condF rfl (by rfl) ?_ | refine W.region tm ls_specs_ok rfl (by conv => lhs; simp [h2, vB, vA, plL, hC2]) fun _ => ?_ | refine W.regionD tm ls_specs_ok rfl (by conv => lhs; simp [h2, vB, vA, plL, hC2]) (by conv => lhs; simp) (by kernel_rfl) fun _ => ?_)
      have g2 := hld r
      have l2 := hll r
      rw [l2]
      generalize lds nodes r = LL2 at g2 l2 ⊢
      refine W.loop rfl (ι := { q : Nat × NL ABlk // q.1 ≤ nodes.length ∧ lk q.2 96 = some (vB 1 nodes P) ∧ lk q.2 144 = some (vB 1 nodes (plL r)) })
        (fun q => ⟨138, [(5, .ptr 96 1 0 0), (7, .list 1 (gs.map gL)), (8, .ptr 144 1 0 0), (12, .int .i64 (c : Nat)), (93, .list 3 (LL2.map Ld.cells)), (94, .int .i64 nodes.length), (95, .int .i64 (q.1.1 : Nat))], q.1.2⟩) (fun q => nodes.length - q.1.1)
        ⟨(0, _), by simp, h1, h2⟩ (AS.le_of rfl ⟨rfl, rfl, rfl, rfl, rfl, rfl, rfl, trivial⟩ (fun _ => rfl)) ?_
      clear hk h1 h2 h
      rintro ⟨⟨k, h⟩, hk, h1, h2⟩
      dsimp only at hk h1 h2 ⊢
      by_cases hk2 : k = nodes.length
      · subst hk2
        repeat (first | refine N.seq ?_ | refine N.blk ?_ | refine W.seq rfl ?_ | refine W.block rfl ?_ | refine W.skip rfl ?_ | refine W.ret rfl ?_ | refine N.nil ?_ | refine N.loop ?_ | refine W.exit rfl ?_ | refine X.seq ?_ | refine X.loop ?_ | refine X.hit ?_ | refine X.pass (by decide) ?_ | refine W.condT rfl (by rfl) ?_ | refine W.condF rfl (by rfl) ?_ | refine W.region tm ls_specs_ok rfl (by conv => lhs; simp [h1, vB, vA, hIP]) fun _ => ?_ | refine W.regionD tm ls_specs_ok rfl (by conv => lhs; simp [h1, vB, vA, hIP]) (by conv => lhs; simp) (by kernel_rfl) fun _ => ?_)
        refine W.loop rfl (ι := { q : Nat × NL ABlk // q.1 ≤ pl.length ∧ lk q.2 96 = some (vB 1 nodes P) ∧ lk q.2 144 = some (vB 1 nodes (plL r)) })
          (fun q => ⟨138, [(5, .ptr 96 1 0 0), (7, .list 1 (gs.map gL)), (8, .ptr 144 1 0 0), (105, P), (106, .int .i64 pl.length), (107, .int .i64 (q.1.1 : Nat))], q.1.2⟩) (fun q => pl.length - q.1.1)
          ⟨(0, _), by simp, h1, h2⟩ (AS.le_of rfl ⟨rfl, rfl, rfl, by rw [hIP]; rfl, by first | rfl | simp [lk, hpz], rfl, trivial⟩ (fun _ => rfl)) ?_
        clear hk h1 h2 h
        rintro ⟨⟨k, h⟩, hk, h1, h2⟩
        dsimp only at hk h1 h2 ⊢
        by_cases hk2 : k = pl.length
        · subst hk2
          repeat (first | refine N.seq ?_ | refine N.blk ?_ | refine W.seq rfl ?_ | refine W.block rfl ?_ | refine W.skip rfl ?_ | refine W.ret rfl ?_ | refine N.nil ?_ | refine N.loop ?_ | refine W.exit rfl ?_ | refine X.seq ?_ | refine X.loop ?_ | refine X.hit ?_ | refine X.pass (by decide) ?_ | refine W.condT rfl (by rfl) ?_ | refine W.condF rfl (by rfl) ?_ | refine W.region tm ls_specs_ok rfl (by conv => lhs; simp) fun _ => ?_ | refine W.regionD tm ls_specs_ok rfl (by conv => lhs; simp) (by conv => lhs; simp) (by kernel_rfl) fun _ => ?_)
          refine W.loop rfl (ι := { q : Nat × NL ABlk // q.1 ≤ gs.length ∧ lk q.2 96 = some (vB 1 nodes P) ∧ lk q.2 144 = some (vB 1 nodes (plL r)) })
            (fun q => ⟨138, [(5, .ptr 96 1 0 0), (8, .ptr 144 1 0 0), (122, .list 1 (gs.map gL)), (123, .int .i64 gs.length), (124, .int .i64 (q.1.1 : Nat))], q.1.2⟩) (fun q => gs.length - q.1.1)
            ⟨(0, _), by simp, h1, h2⟩ (AS.le_of rfl ⟨rfl, rfl, rfl, rfl, rfl, trivial⟩ (fun _ => rfl)) ?_
          clear hk h1 h2 h
          rintro ⟨⟨k, h⟩, hk, h1, h2⟩
          dsimp only at hk h1 h2 ⊢
          by_cases hk2 : k = gs.length
          · subst hk2
            repeat (first | refine N.seq ?_ | refine N.blk ?_ | refine W.seq rfl ?_ | refine W.block rfl ?_ | refine W.skip rfl ?_ | refine W.ret rfl ?_ | refine N.nil ?_ | refine N.loop ?_ | refine W.exit rfl ?_ | refine X.seq ?_ | refine X.loop ?_ | refine X.hit ?_ | refine X.pass (by decide) ?_ | refine W.condT rfl (by rfl) ?_ | refine W.condF rfl (by rfl) ?_ | refine W.region tm ls_specs_ok rfl (by conv => lhs; simp) fun _ => ?_ | refine W.regionD tm ls_specs_ok rfl (by conv => lhs; simp) (by conv => lhs; simp) (by kernel_rfl) fun _ => ?_)
            first | exact Ret.dataR rfl (by conv => lhs; simp) (by conv => lhs; simp) (by first | rfl | simp [inlT, inlV]) | fail "no return here"
          · have hlt : k < gs.length := by omega
            obtain ⟨g, hx⟩ := get_lt hlt
            have hmem := List.mem_of_getElem? hx
            have hg16 := hm.hg' g hmem
            have t1 := hG1 g (by omega)
            have t2 := hG2 g (by omega)
            have tt := htog g hmem
            have q1 : (k : Int) < gs.length := by omega
            have q2 : ¬ gs.length ≤ k := by omega
            have hw := w64_succ hlt (cap4 n5)
            cases hb : togB pl g with
            | true =>
              rw [hb] at t1
              rw [tt hb] at t2
              repeat (first | refine N.seq ?_ | refine N.blk ?_ | refine W.seq rfl ?_ | refine W.block rfl ?_ | refine W.skip rfl ?_ | refine W.ret rfl ?_ | refine N.nil ?_ | refine N.loop ?_ | refine W.exit rfl ?_ | refine X.seq ?_ | refine X.loop ?_ | refine X.hit ?_ | refine X.pass (by decide) ?_ | refine W.condT rfl (by rfl) ?_ | refine W.condF rfl (by rfl) ?_ | refine W.region tm ls_specs_ok rfl (by conv => lhs; simp [q1, q2, hx, gL, h1, h2, vB, vA, hIP, plL, t1, t2, hw]) fun _ => ?_ | refine W.regionD tm ls_specs_ok rfl (by conv => lhs; simp [q1, q2, hx, gL, h1, h2, vB, vA, hIP, plL, t1, t2, hw]) (by conv => lhs; simp) (by kernel_rfl) fun _ => ?_)
              exact ⟨⟨(k + 1, _), hlt, by simp [lk_st, h1, vB, vA, hIP], by simp [lk_st, h2, vB, vA, plL]⟩, by dsimp only; omega, AS.le_of rfl ⟨rfl, rfl, rfl, rfl, rfl, trivial⟩ (fun _ => rfl)⟩
            | false =>
              rw [hb] at t1
              repeat (first | refine N.seq ?_ | refine N.blk ?_ | refine W.seq rfl ?_ | refine W.block rfl ?_ | refine W.skip rfl ?_ | refine W.ret rfl ?_ | refine N.nil ?_ | refine N.loop ?_ | refine W.exit rfl ?_ | refine X.seq ?_ | refine X.loop ?_ | refine X.hit ?_ | refine X.pass (by decide) ?_ | refine W.condT rfl (by rfl) ?_ | refine W.condF rfl (by rfl) ?_ | refine W.region tm ls_specs_ok rfl (by conv => lhs; simp [q1, q2, hx, gL, h1, h2, vB, vA, hIP, plL, t1, hw]) fun _ => ?_ | refine W.regionD tm ls_specs_ok rfl (by conv => lhs; simp [q1, q2, hx, gL, h1, h2, vB, vA, hIP, plL, t1, hw]) (by conv => lhs; simp) (by kernel_rfl) fun _ => ?_)
              exact ⟨⟨(k + 1, _), hlt, by simp [lk_st, h1, vB, vA, hIP], by simp [lk_st, h2, vB, vA, plL]⟩, by dsimp only; omega, AS.le_of rfl ⟨rfl, rfl, rfl, rfl, rfl, trivial⟩ (fun _ => rfl)⟩
        · have hlt : k < pl.length := by omega
          first
          | exact absurd hpz (by omega)
          | (
            obtain ⟨x, hx⟩ := get_lt hlt
            obtain ⟨y, hy, hxy⟩ := hids k x hx
            have q1 : (k : Int) < pl.length := by omega
            have q2 : ¬ pl.length ≤ k := by omega
            have q3 : ¬ r.length ≤ k := by omega
            have hw := w64_succ hlt (capX n2)
            repeat (first | refine N.seq ?_ | refine N.blk ?_ | refine W.seq rfl ?_ | refine W.block rfl ?_ | refine W.skip rfl ?_ | refine W.ret rfl ?_ | refine N.nil ?_ | refine N.loop ?_ | refine W.exit rfl ?_ | refine X.seq ?_ | refine X.loop ?_ | refine X.hit ?_ | refine X.pass (by decide) ?_ | refine W.condT rfl (by rfl) ?_ | refine W.condF rfl (by rfl) ?_ | refine W.region tm ls_specs_ok rfl (by conv => lhs; simp [q1, q2, q3, hx, hy, Pl.cells, h2, vB, vA, plL, hIP, hw, hxy]) fun _ => ?_ | refine W.regionD tm ls_specs_ok rfl (by conv => lhs; simp [q1, q2, q3, hx, hy, Pl.cells, h2, vB, vA, plL, hIP, hw, hxy]) (by conv => lhs; simp) (by kernel_rfl) fun _ => ?_)
            exact ⟨⟨(k + 1, _), hlt, by simp [lk_st, h1], by simp [lk_st, h2, vB, vA, plL]⟩, by dsimp only; omega, AS.le_of rfl ⟨rfl, rfl, rfl, by rw [hIP]; rfl, rfl, rfl, trivial⟩ (fun _ => rfl)⟩)
      · have hlt : k < nodes.length := by omega
        obtain ⟨x, hx⟩ := get_lt hlt
        have hg := g2 k x hx
        have q1 : (k : Int) < nodes.length := by omega
        have q2 : ¬ LL2.length ≤ k := by rw [l2]; omega
        have hw := w64_succ hlt (capX n1')
        have c1 := hmc x (List.mem_of_getElem? hx)
        have q3 : ¬ (c : Int) < (cnt r x : Int) := by omega
        have q4 : ¬ c < cnt r x := by omega
        repeat (first | refine N.seq ?_ | refine N.blk ?_ | refine W.seq rfl ?_ | refine W.block rfl ?_ | refine W.skip rfl ?_ | refine W.ret rfl ?_ | refine N.nil ?_ | refine N.loop ?_ | refine W.exit rfl ?_ | refine X.seq ?_ | refine X.loop ?_ | refine X.hit ?_ | refine X.pass (by decide) ?_ | refine W.condT rfl (by rfl) ?_ | refine W.condF rfl (by rfl) ?_ | refine W.region tm ls_specs_ok rfl (by conv => lhs; simp [q1, q2, hg, ldOf, Ld.cells, hw, q3, q4]) fun _ => ?_ | refine W.regionD tm ls_specs_ok rfl (by conv => lhs; simp [q1, q2, hg, ldOf, Ld.cells, hw, q3, q4]) (by conv => lhs; simp) (by kernel_rfl) fun _ => ?_)
        exact ⟨⟨(k + 1, _), hlt, by simp [lk_st, h1], by simp [lk_st, h2]⟩, by dsimp only; omega, AS.le_of rfl ⟨rfl, rfl, rfl, rfl, rfl, rfl, rfl, trivial⟩ (fun _ => rfl)⟩
    · have hlt : k < nodes.length := by omega
      obtain ⟨x, hx⟩ := get_lt hlt
      have hg := g1 k x hx
      have q1 : (k : Int) < nodes.length := by omega
      have q2 : ¬ LL.length ≤ k := by rw [l1]; omega
      have hw := w64_succ hlt (capX n1')
      have hmx : (if c < cnt pl x then (cnt pl x : Int) else (c : Int)) = ((max c (cnt pl x) : Nat) : Int) := by split <;> omega
      repeat (first | refine N.seq ?_ | refine N.blk ?_ | refine W.seq rfl ?_ | refine W.block rfl ?_ | refine W.skip rfl ?_ | refine W.ret rfl ?_ | refine N.nil ?_ | refine N.loop ?_ | refine W.exit rfl ?_ | refine X.seq ?_ | refine X.loop ?_ | refine X.hit ?_ | refine X.pass (by decide) ?_ | refine W.condT rfl (by rfl) ?_ | refine W.condF rfl (by rfl) ?_ | refine W.region tm ls_specs_ok rfl (by conv => lhs; simp [q1, q2, hg, ldOf, Ld.cells, hw]) fun _ => ?_ | refine W.regionD tm ls_specs_ok rfl (by conv => lhs; simp [q1, q2, hg, ldOf, Ld.cells, hw]) (by conv => lhs; simp) (by kernel_rfl) fun _ => ?_)
      rw [hmx]
      exact ⟨⟨(k + 1, max c (cnt pl x), _), hlt, fun n hn => by
        rw [List.take_add_one, hx, List.mem_append] at hn
        rcases hn with hn | hn
        · exact Nat.le_trans (hc n hn) (Nat.le_max_left _ _)
        · simp at hn; subst hn; exact Nat.le_max_right _ _, by simp [lk_st, h1], by simp [lk_st, h2]⟩, by dsimp only; omega, AS.le_of rfl ⟨rfl, rfl, rfl, rfl, rfl, rfl, rfl, trivial⟩ (fun _ => rfl)⟩
noncomputable def setsS : SpecFn := mkS encLM fun _ => (.bool true, [])
theorem sets_ok : FnC Try.prog 4 setsS := by
  refine FnC.walk 4 (fn := Try.f4) Try.func4 rfl (by kernel_rfl) fun x => ?_
  obtain ⟨L, M, hL, hM⟩ := x
  change W _ (Ret _ _ (.bool true) []) _ _ ⟨138, [(0, .list 1 (L.map ic)), (1, .list 1 (M.map ic))], []⟩
  exact set_walk (made2 L M) (gRes_dj M _) (isP_plP L) (placesS_eq L hL) (groupsS_eq M hM 1 (nds L) (plP L) (plR L).1 (isP_plP L) (by have := nds_len L; omega) (by have := plR_len L; omega))
end Go.Abs.Po
namespace Go.Abs.Po
open Go Go.Proofs Go.Abs
set_option maxRecDepth 100000
set_option maxHeartbeats 4000000
set_option linter.unusedSimpArgs false
set_option linter.unusedVariables false
attribute [local simp] runL stepA execA_eq skipA run_ret run_fail run_get run_put run_asm num lk st lk_st putA AS.ev ofValue ofFlat mkv splice fieldAddrA buildA fillA runF gdst pickA unOpA extractA resVs resV pack frzT inlT inlV frzV frzVs frzL frz1 newId AV.cellsOf AV.flat AV.flat2 specOf loadA_runR capA copyA copyTo srcA sliceCA slice3A appendZA extA AV.place lenCA clearA clearTo expG expB3 List.zipWith renL fF handB renB AV.ren backF backL idsOf freshIds refsL refsB AV.refs List.range List.range.loop placesA sliceRows rowsOf convertA sliceArrA sliceA bndA nilCheckA arrayAtA mmA lookupA keyOf keyOK findA keyEqA foundA makeMapA mapUpdateA appendA rowsA indexA partA fieldA retE2 frqT frqV frqVs frqL frq1 reachE blkRefs outE nodupE firstE seqO expB2 expF instA take_len_map List.findIdx?_cons List.findIdx?_nil
theorem okr_ok : FnC Try.prog 38 okS := by
  refine FnC.walk 38 (fn := Try.f38) Try.func38 rfl (by kernel_rfl) fun t => ?_
  change W _ _ _ _ ⟨28, [(0, .agg t.cells)], []⟩
  unfold Tm.ok
  by_cases h1 : 0 ≤ t.low
  · by_cases h2 : t.low < t.high
    · by_cases h3 : t.high ≤ 1048576
      · by_cases h4 : 1 ≤ t.rounds
        · repeat (first | refine N.seq ?_ | refine N.blk ?_ | refine W.seq rfl ?_ | refine W.block rfl ?_ | refine W.skip rfl ?_ | refine W.ret rfl ?_ | refine N.nil ?_ | refine N.loop ?_ | refine W.exit rfl ?_ | refine X.seq ?_ | refine X.loop ?_ | refine X.hit ?_ | refine X.pass (by decide) ?_ | refine W.condT rfl (by rfl) ?_ | refine W.condF rfl (by rfl) ?_ | refine W.region tm no_specs rfl (by conv => lhs; simp [Tm.cells, h1, h2, h3, h4]) fun _ => ?_ | refine W.regionD tm no_specs rfl (by conv => lhs; simp [Tm.cells, h1, h2, h3, h4]) (by conv => lhs; simp) (by kernel_rfl) fun _ => ?_)
          simp only [h1, h2, h3, h4, decide_true, Bool.true_and]
          first | exact Ret.dataR rfl (by conv => lhs; simp) (by conv => lhs; simp) (by first | rfl | simp [inlT, inlV]) | fail "no return here"
        · repeat (first | refine N.seq ?_ | refine N.blk ?_ | refine W.seq rfl ?_ | refine W.block rfl ?_ | refine W.skip rfl ?_ | refine W.ret rfl ?_ | refine N.nil ?_ | refine N.loop ?_ | refine W.exit rfl ?_ | refine X.seq ?_ | refine X.loop ?_ | refine X.hit ?_ | refine X.pass (by decide) ?_ | refine W.condT rfl (by rfl) ?_ | refine W.condF rfl (by rfl) ?_ | refine W.region tm no_specs rfl (by conv => lhs; simp [Tm.cells, h1, h2, h3, h4]) fun _ => ?_ | refine W.regionD tm no_specs rfl (by conv => lhs; simp [Tm.cells, h1, h2, h3, h4]) (by conv => lhs; simp) (by kernel_rfl) fun _ => ?_)
          simp only [h1, h2, h3, h4, decide_true, decide_false, Bool.true_and, Bool.false_and]
          first | exact Ret.dataR rfl (by conv => lhs; simp) (by conv => lhs; simp) (by first | rfl | simp [inlT, inlV]) | fail "no return here"
      · repeat (first | refine N.seq ?_ | refine N.blk ?_ | refine W.seq rfl ?_ | refine W.block rfl ?_ | refine W.skip rfl ?_ | refine W.ret rfl ?_ | refine N.nil ?_ | refine N.loop ?_ | refine W.exit rfl ?_ | refine X.seq ?_ | refine X.loop ?_ | refine X.hit ?_ | refine X.pass (by decide) ?_ | refine W.condT rfl (by rfl) ?_ | refine W.condF rfl (by rfl) ?_ | refine W.region tm no_specs rfl (by conv => lhs; simp [Tm.cells, h1, h2, h3]) fun _ => ?_ | refine W.regionD tm no_specs rfl (by conv => lhs; simp [Tm.cells, h1, h2, h3]) (by conv => lhs; simp) (by kernel_rfl) fun _ => ?_)
        simp only [h1, h2, h3, decide_true, decide_false, Bool.true_and, Bool.false_and]
        first | exact Ret.dataR rfl (by conv => lhs; simp) (by conv => lhs; simp) (by first | rfl | simp [inlT, inlV]) | fail "no return here"
    · repeat (first | refine N.seq ?_ | refine N.blk ?_ | refine W.seq rfl ?_ | refine W.block rfl ?_ | refine W.skip rfl ?_ | refine W.ret rfl ?_ | refine N.nil ?_ | refine N.loop ?_ | refine W.exit rfl ?_ | refine X.seq ?_ | refine X.loop ?_ | refine X.hit ?_ | refine X.pass (by decide) ?_ | refine W.condT rfl (by rfl) ?_ | refine W.condF rfl (by rfl) ?_ | refine W.region tm no_specs rfl (by conv => lhs; simp [Tm.cells, h1, h2]) fun _ => ?_ | refine W.regionD tm no_specs rfl (by conv => lhs; simp [Tm.cells, h1, h2]) (by conv => lhs; simp) (by kernel_rfl) fun _ => ?_)
      simp only [h1, h2, decide_true, decide_false, Bool.true_and, Bool.false_and]
      first | exact Ret.dataR rfl (by conv => lhs; simp) (by conv => lhs; simp) (by first | rfl | simp [inlT, inlV]) | fail "no return here"
  · repeat (first | refine N.seq ?_ | refine N.blk ?_ | refine W.seq rfl ?_ | refine W.block rfl ?_ | refine W.skip rfl ?_ | refine W.ret rfl ?_ | refine N.nil ?_ | refine N.loop ?_ | refine W.exit rfl ?_ | refine X.seq ?_ | refine X.loop ?_ | refine X.hit ?_ | refine X.pass (by decide) ?_ | refine W.condT rfl (by rfl) ?_ | refine W.condF rfl (by rfl) ?_ | refine W.region tm no_specs rfl (by conv => lhs; simp [Tm.cells, h1]) fun _ => ?_ | refine W.regionD tm no_specs rfl (by conv => lhs; simp [Tm.cells, h1]) (by conv => lhs; simp) (by kernel_rfl) fun _ => ?_)
    simp only [h1, decide_false, Bool.false_and]
    first | exact Ret.dataR rfl (by conv => lhs; simp) (by conv => lhs; simp) (by first | rfl | simp [inlT, inlV]) | fail "no return here"
/-! ### Equal plans -/
def PnI := { l : List Pn // l.length ≤ 400 }
def encPs (l : PnI) : List AV := [pnV l.1, pnV l.1]
theorem th62 : Try.prog.stoodInHeld 62 = false := by kernel_rfl
theorem eq62' (a b c : Int) : eqV Try.prog 9 62 (.agg [.int .u64 a, .int .i64 b, .int .i64 c]) (.agg [.int .u64 a, .int .i64 b, .int .i64 c]) = some true := by
  simp [eqV, Try.underlying62, Try.underlying55, Try.underlying3, th62, eqFs, partV]
attribute [local simp] eqlA eq62'
noncomputable def spS : SpecFn := mkS encPs fun _ => (.bool true, [])
theorem spS_eq (l : List Pn) (h : l.length ≤ 400) : spS [pnV l, pnV l] [] = some (.bool true, []) := mkS_eq (enc := encPs) (fun _ _ _ => rfl) ⟨l, h⟩
theorem sp_ok : FnC Try.prog 14 spS := by
  refine FnC.walk 14 (fn := Try.f14) Try.func14 rfl (by kernel_rfl) fun x => ?_
  obtain ⟨l, hl⟩ := x
  refine W.weak (σ' := ⟨26, [(0, .list 3 (l.map Pn.cells)), (1, .list 3 (l.map Pn.cells))], []⟩) (AS.le_of' rfl ⟨⟨_, rfl, pnV_weak l⟩, ⟨_, rfl, pnV_weak l⟩, trivial⟩ (fun _ => rfl)) ?_
  dsimp only
  repeat (first | refine N.seq ?_ | refine N.blk ?_ | refine W.seq rfl ?_ | refine W.block rfl ?_ | refine W.skip rfl ?_ | refine W.ret rfl ?_ | refine N.nil ?_ | refine N.loop ?_ | refine W.exit rfl ?_ | refine X.seq ?_ | refine X.loop ?_ | refine X.hit ?_ | refine X.pass (by decide) ?_ | refine W.condT rfl (by rfl) ?_ | refine W.condF rfl (by rfl) ?_ | refine W.region tm no_specs rfl (by conv => lhs; simp) fun _ => ?_ | refine W.regionD tm no_specs rfl (by conv => lhs; simp) (by conv => lhs; simp) (by kernel_rfl) fun _ => ?_)
  refine W.loop rfl (ι := { q : Nat × NL ABlk // q.1 ≤ l.length }) (fun q => ⟨26, [(0, .list 3 (l.map Pn.cells)), (1, .list 3 (l.map Pn.cells)), (5, .int .i64 (q.1.1 : Nat))], q.1.2⟩) (fun q => l.length - q.1.1)
    ⟨(0, _), by simp⟩ (AS.le_of rfl ⟨rfl, rfl, rfl, trivial⟩ (fun _ => rfl)) ?_
  rintro ⟨⟨k, h⟩, hk⟩
  dsimp only at hk ⊢
  by_cases hk2 : k = l.length
  · subst hk2
    repeat (first | refine N.seq ?_ | refine N.blk ?_ | refine W.seq rfl ?_ | refine W.block rfl ?_ | refine W.skip rfl ?_ | refine W.ret rfl ?_ | refine N.nil ?_ | refine N.loop ?_ | refine W.exit rfl ?_ | refine X.seq ?_ | refine X.loop ?_ | refine X.hit ?_ | refine X.pass (by decide) ?_ | refine W.condT rfl (by rfl) ?_ | refine W.condF rfl (by rfl) ?_ | refine W.region tm no_specs rfl (by conv => lhs; simp) fun _ => ?_ | refine W.regionD tm no_specs rfl (by conv => lhs; simp) (by conv => lhs; simp) (by kernel_rfl) fun _ => ?_)
    first | exact Ret.dataR rfl (by conv => lhs; simp) (by conv => lhs; simp) (by first | rfl | simp [inlT, inlV]) | fail "no return here"
  · have hlt : k < l.length := by omega
    obtain ⟨x, hx⟩ := get_lt hlt
    have q1 : (k : Int) < l.length := by omega
    have q2 : ¬ l.length ≤ k := by omega
    have hw := w64_succ hlt (cap4 hl)
    repeat (first | refine N.seq ?_ | refine N.blk ?_ | refine W.seq rfl ?_ | refine W.block rfl ?_ | refine W.skip rfl ?_ | refine W.ret rfl ?_ | refine N.nil ?_ | refine N.loop ?_ | refine W.exit rfl ?_ | refine X.seq ?_ | refine X.loop ?_ | refine X.hit ?_ | refine X.pass (by decide) ?_ | refine W.condT rfl (by rfl) ?_ | refine W.condF rfl (by rfl) ?_ | refine W.region tm no_specs rfl (by conv => lhs; simp [q1, q2, hx, hw, Pn.cells]) fun _ => ?_ | refine W.regionD tm no_specs rfl (by conv => lhs; simp [q1, q2, hx, hw, Pn.cells]) (by conv => lhs; simp) (by kernel_rfl) fun _ => ?_)
    exact ⟨⟨(k + 1, _), hlt⟩, by dsimp only; omega, AS.le_of rfl ⟨rfl, rfl, rfl, trivial⟩ (fun _ => rfl)⟩
/-! ### Whether a group is at a node -/
def at1 (pl : List Pl) (n : Int) (id : Int) : Bool := (plc pl id).2 && (plc pl id).1 == n
def atB (pl : List Pl) (g : List Int) (n : Int) : Bool := g.all (at1 pl n) && !(g.length == 0)
def VgnI := { x : Vt × List Int × Int // x.2.1.length ≤ 400 }
def encVgn (x : VgnI) : List AV := [x.1.1.av, .list 1 (x.1.2.1.map uc), .int .i64 x.1.2.2]
theorem encVgn_inj {β : Type} {f : VgnI → β} : ∀ x y, encVgn x = encVgn y → f x = f y := fun x y h => by
  simp only [encVgn, List.cons.injEq, AV.list.injEq, AV.int.injEq, true_and, and_true] at h
  rw [Subtype.ext (Prod.ext (Vt.inj _ _ h.1) (Prod.ext (map_inj uc_inj h.2.1) h.2.2))]
noncomputable def atS : SpecFn := mkS encVgn fun x => (.bool (atB x.1.1.pl x.1.2.1 x.1.2.2), [])
theorem atS_eq (view : Int) (nodes : List Int) (P : AV) (pl : List Pl) (g : List Int) (n : Int) (hP : IsP P pl) (hn : nodes.length ≤ 8) (hl : pl.length ≤ 200) (hg : g.length ≤ 400) :
    atS [.agg [.int .i64 view, .list 1 (nodes.map ic), .nils, P, .nils, .nils], .list 1 (g.map uc), .int .i64 n] [] = some (.bool (atB pl g n), []) :=
  mkS_eq (enc := encVgn) encVgn_inj ⟨(⟨view, nodes, P, pl, hP, hn, hl⟩, g, n), hg⟩
noncomputable def at_specs : NL Spec := [(22, ⟨1, plcrS⟩)]
theorem at_specs_ok : ∀ p ∈ at_specs, FnC Try.prog p.1 p.2.fn := by
  simp only [at_specs, List.mem_cons, List.not_mem_nil, or_false]
  rintro p rfl
  exact plcr_ok
attribute [local simp] at_specs
theorem at_ok : FnC Try.prog 39 atS := by
  refine FnC.walk 39 (fn := Try.f39) Try.func39 rfl (by kernel_rfl) fun x => ?_
  obtain ⟨⟨⟨view, nodes, P, pl, hP, hn, hl⟩, g, n⟩, hg⟩ := x
  dsimp only at hg ⊢
  refine W.weak (σ' := ⟨35, [(0, .agg (vA view nodes (.list 2 (pl.map Pl.cells)))), (1, .list 1 (g.map uc)), (2, .int .i64 n)], []⟩) (le_head (vA_weak hP.weak)) ?_
  clear hP P
  have hPl := fun id => plcrS_eq view nodes (.list 2 (pl.map Pl.cells)) pl id (isP_plL pl) hn hl
  unfold atB
  repeat (first | refine N.seq ?_ | refine N.blk ?_ | refine W.seq rfl ?_ | refine W.block rfl ?_ | refine W.skip rfl ?_ | refine W.ret rfl ?_ | refine N.nil ?_ | refine N.loop ?_ | refine W.exit rfl ?_ | refine X.seq ?_ | refine X.loop ?_ | refine X.hit ?_ | refine X.pass (by decide) ?_ | refine W.condT rfl (by rfl) ?_ | refine W.condF rfl (by rfl) ?_ | refine W.region tm at_specs_ok rfl (by conv => lhs; simp [vA]) fun _ => ?_ | refine W.regionD tm at_specs_ok rfl (by conv => lhs; simp [vA]) (by conv => lhs; simp) (by kernel_rfl) fun _ => ?_)
  refine W.loop rfl (ι := { q : Nat × NL ABlk // q.1 ≤ g.length ∧ g.all (at1 pl n) = (g.drop q.1).all (at1 pl n) ∧ lk q.2 64 = some (vB view nodes (.list 2 (pl.map Pl.cells))) })
    (fun q => ⟨35, [(1, .list 1 (g.map uc)), (2, .int .i64 n), (3, .ptr 64 1 0 0), (7, .int .i64 (q.1.1 : Nat))], q.1.2⟩) (fun q => g.length - q.1.1)
    ⟨(0, _), by simp, by simp, by rfl⟩ (AS.le_of rfl ⟨rfl, rfl, rfl, rfl, trivial⟩ (fun _ => rfl)) ?_
  rintro ⟨⟨k, h⟩, hk, ht, h1⟩
  dsimp only at hk ht h1 ⊢
  rw [ht]
  by_cases hk2 : k = g.length
  · subst hk2
    rw [List.drop_length]
    simp only [List.all_nil, Bool.true_and]
    by_cases h0 : g.length = 0
    · have e1 : ¬ (0 : Int) < g.length := by omega
      have e2 : ¬ 0 < g.length := by omega
      have e3 : (!(g.length == 0)) = false := by simp [h0]
      rw [e3]
      repeat (first | refine N.seq ?_ | refine N.blk ?_ | refine W.seq rfl ?_ | refine W.block rfl ?_ | refine W.skip rfl ?_ | refine W.ret rfl ?_ | refine N.nil ?_ | refine N.loop ?_ | refine W.exit rfl ?_ | refine X.seq ?_ | refine X.loop ?_ | refine X.hit ?_ | refine X.pass (by decide) ?_ | refine W.condT rfl (by rfl) ?_ | refine W.condF rfl (by rfl) ?_ | refine W.region tm at_specs_ok rfl (by conv => lhs; simp [e1, e2]) fun _ => ?_ | refine W.regionD tm at_specs_ok rfl (by conv => lhs; simp [e1, e2]) (by conv => lhs; simp) (by kernel_rfl) fun _ => ?_)
      first | exact Ret.dataR rfl (by conv => lhs; simp) (by conv => lhs; simp) (by first | rfl | simp [inlT, inlV]) | fail "no return here"
    · have e1 : (0 : Int) < g.length := by omega
      have e2 : 0 < g.length := by omega
      have e3 : (!(g.length == 0)) = true := by simp [h0]
      rw [e3]
      repeat (first | refine N.seq ?_ | refine N.blk ?_ | refine W.seq rfl ?_ | refine W.block rfl ?_ | refine W.skip rfl ?_ | refine W.ret rfl ?_ | refine N.nil ?_ | refine N.loop ?_ | refine W.exit rfl ?_ | refine X.seq ?_ | refine X.loop ?_ | refine X.hit ?_ | refine X.pass (by decide) ?_ | refine W.condT rfl (by rfl) ?_ | refine W.condF rfl (by rfl) ?_ | refine W.region tm at_specs_ok rfl (by conv => lhs; simp [e1, e2]) fun _ => ?_ | refine W.regionD tm at_specs_ok rfl (by conv => lhs; simp [e1, e2]) (by conv => lhs; simp) (by kernel_rfl) fun _ => ?_)
      first | exact Ret.dataR rfl (by conv => lhs; simp) (by conv => lhs; simp) (by first | rfl | simp [inlT, inlV]) | fail "no return here"
  · have hlt : k < g.length := by omega
    obtain ⟨x, hx⟩ := get_lt hlt
    have q1 : (k : Int) < g.length := by omega
    have q2 : ¬ g.length ≤ k := by omega
    have hw := w64_succ hlt (cap4 hg)
    have hp1 := hPl x
    rw [dropG hx, List.all_cons]
    have hT : at1 pl n x = ((plc pl x).2 && (plc pl x).1 == n) := rfl
    rw [hT]
    generalize plc pl x = a at hp1 hT ⊢
    obtain ⟨a1, a2⟩ := a
    dsimp only at hp1 hT ⊢
    cases a2 with
    | false =>
      repeat (first | refine N.seq ?_ | refine N.blk ?_ | refine W.seq rfl ?_ | refine W.block rfl ?_ | refine W.skip rfl ?_ | refine W.ret rfl ?_ | refine N.nil ?_ | refine N.loop ?_ | refine W.exit rfl ?_ | refine X.seq ?_ | refine X.loop ?_ | refine X.hit ?_ | refine X.pass (by decide) ?_ | refine W.condT rfl (by rfl) ?_ | refine W.condF rfl (by rfl) ?_ | refine W.region tm at_specs_ok rfl (by conv => lhs; simp [h1, vB, vA, q1, q2, hx, uc, hp1]) fun _ => ?_ | refine W.regionD tm at_specs_ok rfl (by conv => lhs; simp [h1, vB, vA, q1, q2, hx, uc, hp1]) (by conv => lhs; simp) (by kernel_rfl) fun _ => ?_)
      simp only [Bool.false_and]
      first | exact Ret.dataR rfl (by conv => lhs; simp) (by conv => lhs; simp) (by first | rfl | simp [inlT, inlV]) | fail "no return here"
    | true =>
      by_cases e : a1 = n
      · subst e
        repeat (first | refine N.seq ?_ | refine N.blk ?_ | refine W.seq rfl ?_ | refine W.block rfl ?_ | refine W.skip rfl ?_ | refine W.ret rfl ?_ | refine N.nil ?_ | refine N.loop ?_ | refine W.exit rfl ?_ | refine X.seq ?_ | refine X.loop ?_ | refine X.hit ?_ | refine X.pass (by decide) ?_ | refine W.condT rfl (by rfl) ?_ | refine W.condF rfl (by rfl) ?_ | refine W.region tm at_specs_ok rfl (by conv => lhs; simp [h1, vB, vA, q1, q2, hx, uc, hp1, hw]) fun _ => ?_ | refine W.regionD tm at_specs_ok rfl (by conv => lhs; simp [h1, vB, vA, q1, q2, hx, uc, hp1, hw]) (by conv => lhs; simp) (by kernel_rfl) fun _ => ?_)
        exact ⟨⟨(k + 1, _), hlt, by simp, by simp [lk_st, h1, vB, vA]⟩, by dsimp only; omega, AS.le_of rfl ⟨rfl, rfl, rfl, rfl, trivial⟩ (fun _ => rfl)⟩
      · have e' : (a1 == n) = false := by simpa using e
        repeat (first | refine N.seq ?_ | refine N.blk ?_ | refine W.seq rfl ?_ | refine W.block rfl ?_ | refine W.skip rfl ?_ | refine W.ret rfl ?_ | refine N.nil ?_ | refine N.loop ?_ | refine W.exit rfl ?_ | refine X.seq ?_ | refine X.loop ?_ | refine X.hit ?_ | refine X.pass (by decide) ?_ | refine W.condT rfl (by rfl) ?_ | refine W.condF rfl (by rfl) ?_ | refine W.region tm at_specs_ok rfl (by conv => lhs; simp [h1, vB, vA, q1, q2, hx, uc, hp1]) fun _ => ?_ | refine W.regionD tm at_specs_ok rfl (by conv => lhs; simp [h1, vB, vA, q1, q2, hx, uc, hp1]) (by conv => lhs; simp) (by kernel_rfl) fun _ => ?_)
        refine W.cond rfl (by rfl) (fun hb2 => ?_) (fun hb2 => ?_)
        · repeat (first | refine N.seq ?_ | refine N.blk ?_ | refine W.seq rfl ?_ | refine W.block rfl ?_ | refine W.skip rfl ?_ | refine W.ret rfl ?_ | refine N.nil ?_ | refine N.loop ?_ | refine W.exit rfl ?_ | refine X.seq ?_ | refine X.loop ?_ | refine X.hit ?_ | refine X.pass (by decide) ?_ | refine W.condT rfl (by rfl) ?_ | refine W.condF rfl (by rfl) ?_ | refine W.region tm at_specs_ok rfl (by conv => lhs; simp) fun _ => ?_ | refine W.regionD tm at_specs_ok rfl (by conv => lhs; simp) (by conv => lhs; simp) (by kernel_rfl) fun _ => ?_)
          simp only [e', Bool.and_false, Bool.false_and]
          first | exact Ret.dataR rfl (by conv => lhs; simp) (by conv => lhs; simp) (by first | rfl | simp [inlT, inlV]) | fail "no return here"
        · exact absurd hb2 (by simpa using e)
theorem atB_good (a b : Ld) (pl : List Pl) (g : List Int) : good a b pl g = (atB pl g a.node && !decide (IntKind.i64.wrap (a.now - b.now) < 2 * (g.length : Int))) := by
  unfold good atB
  have h : (!decide (0 ≤ fidx (els pl a.node) g)) = g.all (at1 pl a.node) := by
    rcases fidx_cases (els pl a.node) g with ⟨h1, h2⟩ | ⟨k, x, h1, hx, hp, _⟩
    · rw [h1]
      have : g.all (at1 pl a.node) = true := by
        rw [List.all_eq_true]
        intro id hid
        obtain ⟨i, hi, rfl⟩ := List.mem_iff_getElem.1 hid
        have := h2 i _ (List.getElem?_eq_getElem hi)
        simp only [els, Bool.or_eq_false_iff, Bool.not_eq_false', bne_eq_false_iff_eq] at this
        simp [at1, this.1, this.2]
      rw [this]; rfl
    · have h0 : (0 : Int) ≤ fidx (els pl a.node) g := by omega
      have : g.all (at1 pl a.node) = false := by
        rw [List.all_eq_false]
        refine ⟨x, List.mem_of_getElem? hx, ?_⟩
        simp only [els, Bool.or_eq_true, Bool.not_eq_true', bne_iff_ne] at hp
        simp only [at1, Bool.and_eq_true, beq_iff_eq, not_and]
        rcases hp with hp | hp
        · simp [hp]
        · exact fun _ => hp
      rw [this]
      simp [h0]
  rw [h]
  cases g.all (at1 pl a.node) <;> simp
end Go.Abs.Po
