/- PolicyMoves. Conditions: none. -/
import Derived.Test.YtkalkcgbecbgpaaPo6
namespace Go.Abs.Po
open Go Go.Proofs Go.Abs
set_option maxRecDepth 100000
set_option maxHeartbeats 4000000
set_option linter.unusedSimpArgs false
set_option linter.unusedVariables false
theorem nds_nodup (L : List Int) : (nds L).Nodup := List.Nodup.sublist (List.take_sublist _ _) (by decide)
theorem sq_take {pl : List Pl} {l : List Int} {k : Nat} {x : Int} (h : l[k]? = some x) : sq pl (l.take (k + 1)) = sq pl (l.take k) + cnt pl x * cnt pl x := by
  have key : ∀ a b : List Int, sq pl (a ++ b) = sq pl a + sq pl b := by
    intro a b
    induction a with
    | nil => simp [sq]
    | cons y r ih => simp only [List.cons_append, sq, ih]; omega
  rw [List.take_add_one, h, key]
  simp [sq]
theorem sq_le {pl : List Pl} (h : pl.length ≤ 14) : ∀ l : List Int, sq pl l ≤ 196 * l.length
  | [] => by simp [sq]
  | n :: r => by
    have h1 := cnt_le pl n
    have h2 : cnt pl n * cnt pl n ≤ 14 * 14 := Nat.mul_le_mul (by omega) (by omega)
    have := sq_le h r
    simp only [sq, List.length_cons]
    omega
/-- What is known of what is made of two decks, and more. -/
structure Made2 (nodes : List Int) (pl : List Pl) (gs : List (List Int)) (t : Tm) : Prop extends Made nodes pl gs t where
  nd : nodes.Nodup
  srt : Srt pl
theorem made2 (L M : List Int) : Made2 (nds L) (plR L).1 (gRes M (plR L).1) (tmL L) := ⟨made L M, nds_nodup L, plR_srt L⟩
noncomputable def lm_specs : NL Spec := [(7, ⟨0, saneS⟩), (8, ⟨1, placesS⟩), (9, ⟨1, groupsS⟩), (10, ⟨1, countrS⟩), (12, ⟨1, decS⟩), (22, ⟨1, plcrS⟩), (16, ⟨1, carS⟩), (15, ⟨0, smS⟩)]
theorem lm_specs_ok : ∀ p ∈ lm_specs, FnC Try.prog p.1 p.2.fn := by
  simp only [lm_specs, List.mem_cons, List.not_mem_nil, or_false]
  rintro p (rfl | rfl | rfl | rfl | rfl | rfl | rfl | rfl)
  · exact sane_ok
  · exact places_ok
  · exact groups_ok
  · exact countr_ok
  · exact dec_ok
  · exact plcr_ok
  · exact car_ok
  · exact sm_ok
attribute [local simp] runL stepA execA_eq skipA run_ret run_fail run_get run_put run_asm num lk st lk_st putA AS.ev ofValue ofFlat mkv splice fieldAddrA buildA fillA runF gdst pickA unOpA extractA resVs resV pack frzT inlT inlV frzV frzVs frzL frz1 newId AV.cellsOf AV.flat AV.flat2 specOf loadA_runR capA copyA copyTo srcA sliceCA slice3A appendZA extA AV.place lenCA clearA clearTo expG expB3 List.zipWith renL fF handB renB AV.ren backF backL idsOf freshIds refsL refsB AV.refs List.range List.range.loop placesA sliceRows rowsOf convertA sliceArrA sliceA bndA nilCheckA arrayAtA mmA lookupA keyOf keyOK findA keyEqA foundA makeMapA mapUpdateA appendA rowsA indexA partA fieldA retE2 frqT frqV frqVs frqL frq1 reachE blkRefs outE nodupE firstE seqO expB2 expF instA take_len_map List.findIdx?_cons List.findIdx?_nil lm_specs saneS_eq
theorem moves_walk {nodes : List Int} {pl : List Pl} {gs : List (List Int)} {hi : Int} {P : AV} {L M : List Int} (hm : Made2 nodes pl gs ⟨hi, 0, 3⟩) (hIP : IsP P pl)
    (hP : placesS [.list 1 (L.map ic)] [] = some (.tup [.agg [.int .i64 1, .list 1 (nodes.map ic), .nils, P, .nils, .nils], .agg [.int .i64 hi, .int .i64 0, .int .i64 3]], []))
    (hG : groupsS [.list 1 (M.map ic), .agg [.int .i64 1, .list 1 (nodes.map ic), .nils, P, .nils, .nils]] [] = some (.list 1 (gs.map gL), [])) :
    W Try.prog (Ret Try.prog Try.f6 (.bool true) []) (codeOf Try.f6) [] ⟨165, [(0, .list 1 (L.map ic)), (1, .list 1 (M.map ic))], []⟩ := by
  have n1 : nodes.length ≤ 8 := by have := hm.hn; omega
  have n1' : nodes.length ≤ 200 := by omega
  have n2 : pl.length ≤ 200 := by have := hm.hl; omega
  have n3 : (lds nodes pl).length ≤ 200 := by simp [lds]; omega
  have n4 := dec_len hm.toMade
  have hC := countrS_eq 1 nodes P pl hIP n1 n2
  have hD := decS_eq (lds nodes pl) n3 gs (by have := hm.hg; omega) (fun g hg => by have := hm.hg' g hg; omega) 1 nodes P pl hIP n1 n2 ⟨hi, 0, 3⟩
  have hK := carS_eq 1 nodes P pl (dec (lds nodes pl) gs pl ⟨hi, 0, 3⟩) hIP n1 (by have := hm.hl; omega)
  have hcs := dec_cases nodes gs (pl := pl) n2 ⟨hi, 0, 3⟩ hm.ht
  have hS := smS_eq 1 nodes P (plL pl) pl hIP (isP_plL pl) n1 n2
  dsimp only at hD
  rcases hIP with hIP | ⟨hIP, _⟩
  all_goals
    simp only [hIP, plL] at hP hG hC hD hK hS
    rcases hcs with he | ⟨g, f, u, hp⟩
    · rw [he] at hD hK
      simp only [pnV, if_true, car, List.foldl_nil] at hD hK
      repeat (first | refine N.seq ?_ | refine N.blk ?_ | refine W.seq rfl ?_ | refine W.block rfl ?_ | refine W.skip rfl ?_ | refine W.ret rfl ?_ | refine N.nil ?_ | refine N.loop ?_ | refine W.exit rfl ?_ | refine X.seq ?_ | refine X.loop ?_ | refine X.hit ?_ | refine X.pass (by decide) ?_ | refine W.condT rfl (by rfl) ?_ | refine W.condF rfl (by rfl) ?_ | refine W.region tm lm_specs_ok rfl (by conv => lhs; simp [hP, hG, hC, hD, hK, hS]) fun _ => ?_ | refine W.regionD tm lm_specs_ok rfl (by conv => lhs; simp [hP, hG, hC, hD, hK, hS]) (by conv => lhs; simp) (by kernel_rfl) fun _ => ?_)
      first | exact Ret.dataR rfl (by conv => lhs; simp) (by conv => lhs; simp) (by first | rfl | simp [inlT, inlV]) | fail "no return here"
    · obtain ⟨d, hd1, hd⟩ := moved hm.srt hp
      have hsq := moved_sq hm.srt hm.nd hp
      have hpe : dec (lds nodes pl) gs pl ⟨hi, 0, 3⟩ = mvs g f u := hp.eq
      rw [hpe] at hD hK
      have hne : mvs g f u ≠ [] := by simpa [mvs] using hp.ne
      simp only [pnV, if_neg hne] at hD hK
      have hlen : (mvs g f u).length = g.length := by simp [mvs]
      have hget : ∀ (k : Nat) id, g[k]? = some id → (mvs g f u)[k]? = some ⟨id, f, u⟩ := fun k id h => by rw [mvs, List.getElem?_map, h]; rfl
      have hpl' : (car pl (mvs g f u)).length = pl.length := by have := congrArg List.length hd.ids; simpa using this
      have hg16 := hm.hg' g hp.mem
      have hC2 := countrS_eq 1 nodes (.list 2 ((car pl (mvs g f u)).map Pl.cells)) _ (isP_plL _) n1 (by omega)
      have hPl := fun id => plcrS_eq 1 nodes (.list 2 ((car pl (mvs g f u)).map Pl.cells)) _ id (isP_plL _) n1 (by omega)
      have hat := hd.at_
      have s1 := sq_le (pl := pl) hm.hl
      have s2 := sq_le (pl := car pl (mvs g f u)) (by have := hm.hl; omega)
      have hl0 : 0 < (mvs g f u).length := List.length_pos_iff.2 hne
      have q00 : (((mvs g f u).length : Int) == 0) = false := beq_eq_false_iff_ne.2 (by omega)
      clear hd
      generalize car pl (mvs g f u) = pl' at *
      generalize mvs g f u = ps at *
      repeat (first | refine N.seq ?_ | refine N.blk ?_ | refine W.seq rfl ?_ | refine W.block rfl ?_ | refine W.skip rfl ?_ | refine W.ret rfl ?_ | refine N.nil ?_ | refine N.loop ?_ | refine W.exit rfl ?_ | refine X.seq ?_ | refine X.loop ?_ | refine X.hit ?_ | refine X.pass (by decide) ?_ | refine W.condT rfl (by rfl) ?_ | refine W.condF rfl (by rfl) ?_ | refine W.region tm lm_specs_ok rfl (by conv => lhs; simp [hP, hG, hC, hD, hK, hS, Pn.cells, q00, hne]) fun _ => ?_ | refine W.regionD tm lm_specs_ok rfl (by conv => lhs; simp [hP, hG, hC, hD, hK, hS, Pn.cells, q00, hne]) (by conv => lhs; simp) (by kernel_rfl) fun _ => ?_)
      refine W.loop rfl (ι := { q : Nat × Bool × NL ABlk // q.1 ≤ gs.length ∧ (g ∈ gs.take q.1 → q.2.1 = true) ∧ lk q.2.2 96 = some (vB 1 nodes P) ∧ lk q.2.2 160 = some (vB 1 nodes (plL pl')) })
        (fun q => ⟨165, [(5, .ptr 96 1 0 0), (8, .list 3 (ps.map Pn.cells)), (9, .ptr 160 1 0 0), (10, .bool q.1.2.1), (50, .list 1 (gs.map gL)), (51, .int .i64 gs.length), (52, .int .i64 (q.1.1 : Nat))], q.1.2.2⟩) (fun q => gs.length - q.1.1)
        ⟨(0, false, _), by simp, by simp, by simp [lk_st, lk, vB, vA, hIP], by simp [lk_st, lk, vB, vA, plL]⟩ (AS.le_of rfl ⟨rfl, rfl, rfl, rfl, rfl, rfl, rfl, trivial⟩ (fun _ => rfl)) ?_
      rintro ⟨⟨k, w, h⟩, hk, hw, h1, h2⟩
      dsimp only at hk hw h1 h2 ⊢
      by_cases hk2 : k = gs.length
      · subst hk2
        rw [List.take_length] at hw
        rw [hw hp.mem]
        clear hw w
        repeat (first | refine N.seq ?_ | refine N.blk ?_ | refine W.seq rfl ?_ | refine W.block rfl ?_ | refine W.skip rfl ?_ | refine W.ret rfl ?_ | refine N.nil ?_ | refine N.loop ?_ | refine W.exit rfl ?_ | refine X.seq ?_ | refine X.loop ?_ | refine X.hit ?_ | refine X.pass (by decide) ?_ | refine W.condT rfl (by rfl) ?_ | refine W.condF rfl (by rfl) ?_ | refine W.region tm lm_specs_ok rfl (by conv => lhs; simp) fun _ => ?_ | refine W.regionD tm lm_specs_ok rfl (by conv => lhs; simp) (by conv => lhs; simp) (by kernel_rfl) fun _ => ?_)
        refine W.loop rfl (ι := { q : Nat × NL ABlk // q.1 ≤ ps.length ∧ lk q.2 96 = some (vB 1 nodes P) ∧ lk q.2 160 = some (vB 1 nodes (plL pl')) })
          (fun q => ⟨165, [(5, .ptr 96 1 0 0), (8, .list 3 (ps.map Pn.cells)), (9, .ptr 160 1 0 0), (10, .bool true), (91, .list 3 (ps.map Pn.cells)), (92, .int .i64 ps.length), (93, .int .i64 (q.1.1 : Nat))], q.1.2⟩) (fun q => ps.length - q.1.1)
          ⟨(0, _), by simp, h1, h2⟩ (AS.le_of rfl ⟨rfl, rfl, rfl, rfl, rfl, rfl, rfl, trivial⟩ (fun _ => rfl)) ?_
        clear hk h1 h2 h
        rintro ⟨⟨k, h⟩, hk, h1, h2⟩
        dsimp only at hk h1 h2 ⊢
        by_cases hk2 : k = ps.length
        · subst hk2
          have hll : ∀ T, (lds nodes T).length = nodes.length := fun T => by simp [lds]
          have hld : ∀ T (k : Nat) x, nodes[k]? = some x → (lds nodes T)[k]? = some (ldOf T x) := fun T k x h => by rw [lds, List.getElem?_map, h]; rfl
          repeat (first | refine N.seq ?_ | refine N.blk ?_ | refine W.seq rfl ?_ | refine W.block rfl ?_ | refine W.skip rfl ?_ | refine W.ret rfl ?_ | refine N.nil ?_ | refine N.loop ?_ | refine W.exit rfl ?_ | refine X.seq ?_ | refine X.loop ?_ | refine X.hit ?_ | refine X.pass (by decide) ?_ | refine W.condT rfl (by rfl) ?_ | refine W.condF rfl (by rfl) ?_ | refine W.region tm lm_specs_ok rfl (by conv => lhs; simp [h1, vB, vA, hIP, hC]) fun _ => ?_ | refine W.regionD tm lm_specs_ok rfl (by conv => lhs; simp [h1, vB, vA, hIP, hC]) (by conv => lhs; simp) (by kernel_rfl) fun _ => ?_)
          have l1 := hll pl
          have g1 := hld pl
          generalize lds nodes pl = LL at l1 g1 ⊢
          refine W.loop rfl (ι := { q : Nat × NL ABlk // q.1 ≤ nodes.length ∧ lk q.2 96 = some (vB 1 nodes P) ∧ lk q.2 160 = some (vB 1 nodes (plL pl')) })
            (fun q => ⟨165, [(5, .ptr 96 1 0 0), (8, .list 3 (ps.map Pn.cells)), (9, .ptr 160 1 0 0), (10, .bool true), (19, .int .i64 (sq pl (nodes.take q.1.1) : Nat)), (20, .int .i64 0), (114, .list 3 (LL.map Ld.cells)), (115, .int .i64 LL.length), (116, .int .i64 (q.1.1 : Nat))], q.1.2⟩) (fun q => nodes.length - q.1.1)
            ⟨(0, _), by simp, h1, h2⟩ (AS.le_of rfl ⟨rfl, rfl, rfl, rfl, by simp [sq], rfl, rfl, rfl, rfl, trivial⟩ (fun _ => rfl)) ?_
          clear hk h1 h2 h
          rintro ⟨⟨k, h⟩, hk, h1, h2⟩
          dsimp only at hk h1 h2 ⊢
          by_cases hk2 : k = nodes.length
          · subst hk2
            rw [List.take_length]
            repeat (first | refine N.seq ?_ | refine N.blk ?_ | refine W.seq rfl ?_ | refine W.block rfl ?_ | refine W.skip rfl ?_ | refine W.ret rfl ?_ | refine N.nil ?_ | refine N.loop ?_ | refine W.exit rfl ?_ | refine X.seq ?_ | refine X.loop ?_ | refine X.hit ?_ | refine X.pass (by decide) ?_ | refine W.condT rfl (by rfl) ?_ | refine W.condF rfl (by rfl) ?_ | refine W.region tm lm_specs_ok rfl (by conv => lhs; simp [l1, h2, vB, vA, plL, hC2]) fun _ => ?_ | refine W.regionD tm lm_specs_ok rfl (by conv => lhs; simp [l1, h2, vB, vA, plL, hC2]) (by conv => lhs; simp) (by kernel_rfl) fun _ => ?_)
            have l2 := hll pl'
            have g2 := hld pl'
            generalize lds nodes pl' = LL' at l2 g2 ⊢
            refine W.loop rfl (ι := { q : Nat × NL ABlk // q.1 ≤ nodes.length ∧ lk q.2 96 = some (vB 1 nodes P) })
              (fun q => ⟨165, [(5, .ptr 96 1 0 0), (8, .list 3 (ps.map Pn.cells)), (10, .bool true), (19, .int .i64 (sq pl nodes : Nat)), (20, .int .i64 (sq pl' (nodes.take q.1.1) : Nat)), (129, .list 3 (LL'.map Ld.cells)), (130, .int .i64 LL'.length), (131, .int .i64 (q.1.1 : Nat))], q.1.2⟩) (fun q => nodes.length - q.1.1)
              ⟨(0, _), by simp, h1⟩ (AS.le_of rfl ⟨rfl, rfl, rfl, rfl, by simp [sq], rfl, rfl, rfl, trivial⟩ (fun _ => rfl)) ?_
            clear hk h1 h2 h
            rintro ⟨⟨k, h⟩, hk, h1⟩
            dsimp only at hk h1 ⊢
            by_cases hk2 : k = nodes.length
            · subst hk2
              rw [List.take_length]
              have z1 : (sq pl' nodes : Int) ≤ sq pl nodes := by omega
              have z2 : (sq pl' nodes : Int) < sq pl nodes := by omega
              have z3 : sq pl' nodes ≤ sq pl nodes := by omega
              have z4 : sq pl' nodes < sq pl nodes := by omega
              repeat (first | refine N.seq ?_ | refine N.blk ?_ | refine W.seq rfl ?_ | refine W.block rfl ?_ | refine W.skip rfl ?_ | refine W.ret rfl ?_ | refine N.nil ?_ | refine N.loop ?_ | refine W.exit rfl ?_ | refine X.seq ?_ | refine X.loop ?_ | refine X.hit ?_ | refine X.pass (by decide) ?_ | refine W.condT rfl (by rfl) ?_ | refine W.condF rfl (by rfl) ?_ | refine W.region tm lm_specs_ok rfl (by conv => lhs; simp [l2, z1, z2, z3, z4]) fun _ => ?_ | refine W.regionD tm lm_specs_ok rfl (by conv => lhs; simp [l2, z1, z2, z3, z4]) (by conv => lhs; simp) (by kernel_rfl) fun _ => ?_)
              first | exact Ret.dataR rfl (by conv => lhs; simp) (by conv => lhs; simp) (by first | rfl | simp [inlT, inlV]) | fail "no return here"
            · have hlt : k < nodes.length := by omega
              obtain ⟨x, hx⟩ := get_lt hlt
              have hg := g2 k x hx
              have q1 : (k : Int) < LL'.length := by omega
              have q2 : ¬ LL'.length ≤ k := by omega
              have hw := w64_succ hlt (capX n1')
              have st := sq_take (pl := pl') hx
              have b1 := s2 (nodes.take k)
              have b2 := s2 (nodes.take (k + 1))
              rw [st] at b2
              simp only [List.length_take] at b1 b2
              have w1 : IntKind.i64.wrap ((cnt pl' x : Int) * (cnt pl' x : Int)) = (cnt pl' x : Int) * (cnt pl' x : Int) := by rw [← Int.natCast_mul]; exact w64 (by omega) (by omega)
              have w2 : IntKind.i64.wrap ((sq pl' (nodes.take k) : Int) + (cnt pl' x : Int) * (cnt pl' x : Int)) = ((sq pl' (nodes.take (k + 1)) : Nat) : Int) := by rw [st, Int.natCast_add, ← Int.natCast_mul]; exact w64 (by omega) (by omega)
              repeat (first | refine N.seq ?_ | refine N.blk ?_ | refine W.seq rfl ?_ | refine W.block rfl ?_ | refine W.skip rfl ?_ | refine W.ret rfl ?_ | refine N.nil ?_ | refine N.loop ?_ | refine W.exit rfl ?_ | refine X.seq ?_ | refine X.loop ?_ | refine X.hit ?_ | refine X.pass (by decide) ?_ | refine W.condT rfl (by rfl) ?_ | refine W.condF rfl (by rfl) ?_ | refine W.region tm lm_specs_ok rfl (by conv => lhs; simp [q1, q2, hg, ldOf, Ld.cells, hw, w1, w2]) fun _ => ?_ | refine W.regionD tm lm_specs_ok rfl (by conv => lhs; simp [q1, q2, hg, ldOf, Ld.cells, hw, w1, w2]) (by conv => lhs; simp) (by kernel_rfl) fun _ => ?_)
              exact ⟨⟨(k + 1, _), hlt, by simp [lk_st, h1]⟩, by dsimp only; omega, AS.le_of rfl ⟨rfl, rfl, rfl, rfl, rfl, rfl, rfl, rfl, trivial⟩ (fun _ => rfl)⟩
          · have hlt : k < nodes.length := by omega
            obtain ⟨x, hx⟩ := get_lt hlt
            have hg := g1 k x hx
            have q1 : (k : Int) < LL.length := by omega
            have q2 : ¬ LL.length ≤ k := by omega
            have hw := w64_succ hlt (capX n1')
            have st := sq_take (pl := pl) hx
            have b1 := s1 (nodes.take k)
            have b2 := s1 (nodes.take (k + 1))
            rw [st] at b2
            simp only [List.length_take] at b1 b2
            have w1 : IntKind.i64.wrap ((cnt pl x : Int) * (cnt pl x : Int)) = (cnt pl x : Int) * (cnt pl x : Int) := by rw [← Int.natCast_mul]; exact w64 (by omega) (by omega)
            have w2 : IntKind.i64.wrap ((sq pl (nodes.take k) : Int) + (cnt pl x : Int) * (cnt pl x : Int)) = ((sq pl (nodes.take (k + 1)) : Nat) : Int) := by rw [st, Int.natCast_add, ← Int.natCast_mul]; exact w64 (by omega) (by omega)
            repeat (first | refine N.seq ?_ | refine N.blk ?_ | refine W.seq rfl ?_ | refine W.block rfl ?_ | refine W.skip rfl ?_ | refine W.ret rfl ?_ | refine N.nil ?_ | refine N.loop ?_ | refine W.exit rfl ?_ | refine X.seq ?_ | refine X.loop ?_ | refine X.hit ?_ | refine X.pass (by decide) ?_ | refine W.condT rfl (by rfl) ?_ | refine W.condF rfl (by rfl) ?_ | refine W.region tm lm_specs_ok rfl (by conv => lhs; simp [q1, q2, hg, ldOf, Ld.cells, hw, w1, w2]) fun _ => ?_ | refine W.regionD tm lm_specs_ok rfl (by conv => lhs; simp [q1, q2, hg, ldOf, Ld.cells, hw, w1, w2]) (by conv => lhs; simp) (by kernel_rfl) fun _ => ?_)
            exact ⟨⟨(k + 1, _), hlt, by simp [lk_st, h1], by simp [lk_st, h2]⟩, by dsimp only; omega, AS.le_of rfl ⟨rfl, rfl, rfl, rfl, rfl, rfl, rfl, rfl, rfl, trivial⟩ (fun _ => rfl)⟩
        · have hlt : k < ps.length := by omega
          obtain ⟨id, hid⟩ := get_lt (l := g) (i := k) (by omega)
          have hx := hget k id hid
          have hq := hPl id
          rw [hat, if_pos (List.mem_of_getElem? hid)] at hq
          have q1 : (k : Int) < ps.length := by omega
          have q2 : ¬ ps.length ≤ k := by omega
          have hw := w64_succ hlt (capX (by omega))
          repeat (first | refine N.seq ?_ | refine N.blk ?_ | refine W.seq rfl ?_ | refine W.block rfl ?_ | refine W.skip rfl ?_ | refine W.ret rfl ?_ | refine N.nil ?_ | refine N.loop ?_ | refine W.exit rfl ?_ | refine X.seq ?_ | refine X.loop ?_ | refine X.hit ?_ | refine X.pass (by decide) ?_ | refine W.condT rfl (by rfl) ?_ | refine W.condF rfl (by rfl) ?_ | refine W.region tm lm_specs_ok rfl (by conv => lhs; simp [q1, q2, hx, Pn.cells, h2, vB, vA, plL, hq, hw]) fun _ => ?_ | refine W.regionD tm lm_specs_ok rfl (by conv => lhs; simp [q1, q2, hx, Pn.cells, h2, vB, vA, plL, hq, hw]) (by conv => lhs; simp) (by kernel_rfl) fun _ => ?_)
          exact ⟨⟨(k + 1, _), hlt, by simp [lk_st, h1], by simp [lk_st, h2, vB, vA, plL]⟩, by dsimp only; omega, AS.le_of rfl ⟨rfl, rfl, rfl, rfl, rfl, rfl, rfl, trivial⟩ (fun _ => rfl)⟩
      · have hlt : k < gs.length := by omega
        obtain ⟨x, hx⟩ := get_lt hlt
        have hxl := hm.hg' x (List.mem_of_getElem? hx)
        have q1 : (k : Int) < gs.length := by omega
        have q2 : ¬ gs.length ≤ k := by omega
        have hwk := w64_succ hlt (capX (by have := hm.hg; omega))
        have hst : g ∈ gs.take (k + 1) → x = g ∨ w = true := fun hgk => by
          rw [List.take_add_one, hx, List.mem_append] at hgk
          rcases hgk with hgk | hgk
          · exact .inr (hw hgk)
          · simp at hgk; exact .inl hgk.symm
        repeat (first | refine N.seq ?_ | refine N.blk ?_ | refine W.seq rfl ?_ | refine W.block rfl ?_ | refine W.skip rfl ?_ | refine W.ret rfl ?_ | refine N.nil ?_ | refine N.loop ?_ | refine W.exit rfl ?_ | refine X.seq ?_ | refine X.loop ?_ | refine X.hit ?_ | refine X.pass (by decide) ?_ | refine W.condT rfl (by rfl) ?_ | refine W.condF rfl (by rfl) ?_ | refine W.region tm lm_specs_ok rfl (by conv => lhs; simp [q1, q2, hx, gL]) fun _ => ?_ | refine W.regionD tm lm_specs_ok rfl (by conv => lhs; simp [q1, q2, hx, gL]) (by conv => lhs; simp) (by kernel_rfl) fun _ => ?_)
        refine W.loop rfl (ι := { q : Nat × Bool × NL ABlk // q.1 ≤ ps.length ∧ (x = g → q.2.1 = true) ∧ lk q.2.2 96 = some (vB 1 nodes P) ∧ lk q.2.2 160 = some (vB 1 nodes (plL pl')) })
          (fun q => ⟨165, [(5, .ptr 96 1 0 0), (8, .list 3 (ps.map Pn.cells)), (9, .ptr 160 1 0 0), (10, .bool w), (12, .list 1 (x.map uc)), (13, .bool q.1.2.1), (50, .list 1 (gs.map gL)), (51, .int .i64 gs.length), (52, .int .i64 (k : Nat)), (62, .int .i64 ps.length), (63, .int .i64 (q.1.1 : Nat))], q.1.2.2⟩) (fun q => ps.length - q.1.1)
          ⟨(0, _, _), by simp, fun e => by rw [e]; simp [hlen], h1, h2⟩ (AS.le_of rfl ⟨rfl, rfl, rfl, rfl, rfl, rfl, rfl, rfl, rfl, rfl, rfl, trivial⟩ (fun _ => rfl)) ?_
        clear h1 h2 h
        rintro ⟨⟨i, s, h⟩, hi, hs, h1, h2⟩
        dsimp only at hi hs h1 h2 ⊢
        by_cases hi2 : i = ps.length
        · subst hi2
          cases w with
          | true =>
            repeat (first | refine N.seq ?_ | refine N.blk ?_ | refine W.seq rfl ?_ | refine W.block rfl ?_ | refine W.skip rfl ?_ | refine W.ret rfl ?_ | refine N.nil ?_ | refine N.loop ?_ | refine W.exit rfl ?_ | refine X.seq ?_ | refine X.loop ?_ | refine X.hit ?_ | refine X.pass (by decide) ?_ | refine W.condT rfl (by rfl) ?_ | refine W.condF rfl (by rfl) ?_ | refine W.region tm lm_specs_ok rfl (by conv => lhs; simp [hwk]) fun _ => ?_ | refine W.regionD tm lm_specs_ok rfl (by conv => lhs; simp [hwk]) (by conv => lhs; simp) (by kernel_rfl) fun _ => ?_)
            exact ⟨⟨(k + 1, true, _), hlt, fun _ => rfl, h1, h2⟩, by dsimp only; omega, AS.le_of rfl ⟨rfl, rfl, rfl, rfl, rfl, rfl, rfl, trivial⟩ (fun _ => rfl)⟩
          | false =>
            repeat (first | refine N.seq ?_ | refine N.blk ?_ | refine W.seq rfl ?_ | refine W.block rfl ?_ | refine W.skip rfl ?_ | refine W.ret rfl ?_ | refine N.nil ?_ | refine N.loop ?_ | refine W.exit rfl ?_ | refine X.seq ?_ | refine X.loop ?_ | refine X.hit ?_ | refine X.pass (by decide) ?_ | refine W.condT rfl (by rfl) ?_ | refine W.condF rfl (by rfl) ?_ | refine W.region tm lm_specs_ok rfl (by conv => lhs; simp [hwk]) fun _ => ?_ | refine W.regionD tm lm_specs_ok rfl (by conv => lhs; simp [hwk]) (by conv => lhs; simp) (by kernel_rfl) fun _ => ?_)
            exact ⟨⟨(k + 1, s, _), hlt, fun e => (hst e).elim hs (fun h => by cases h), h1, h2⟩, by dsimp only; omega, AS.le_of rfl ⟨rfl, rfl, rfl, rfl, rfl, rfl, rfl, trivial⟩ (fun _ => rfl)⟩
        · have hil : i < ps.length := by omega
          have hwi := w64_succ hil (capX (by omega))
          obtain ⟨id, hid⟩ := get_lt (l := g) (i := i) (by omega)
          have hy := hget i id hid
          have q3 : (i : Int) < ps.length := by omega
          have q4 : ¬ ps.length ≤ i := by omega
          cases s with
          | false =>
            repeat (first | refine N.seq ?_ | refine N.blk ?_ | refine W.seq rfl ?_ | refine W.block rfl ?_ | refine W.skip rfl ?_ | refine W.ret rfl ?_ | refine N.nil ?_ | refine N.loop ?_ | refine W.exit rfl ?_ | refine X.seq ?_ | refine X.loop ?_ | refine X.hit ?_ | refine X.pass (by decide) ?_ | refine W.condT rfl (by rfl) ?_ | refine W.condF rfl (by rfl) ?_ | refine W.region tm lm_specs_ok rfl (by conv => lhs; simp [q3, q4, hwi]) fun _ => ?_ | refine W.regionD tm lm_specs_ok rfl (by conv => lhs; simp [q3, q4, hwi]) (by conv => lhs; simp) (by kernel_rfl) fun _ => ?_)
            exact ⟨⟨(i + 1, false, _), hil, fun e => hs e, h1, h2⟩, by dsimp only; omega, AS.le_of rfl ⟨rfl, rfl, rfl, rfl, rfl, rfl, rfl, rfl, rfl, rfl, rfl, trivial⟩ (fun _ => rfl)⟩
          | true =>
            by_cases hix : i < x.length
            · obtain ⟨z, hz⟩ := get_lt hix
              have q5 : (i : Int) < x.length := by omega
              have q6 : ¬ x.length ≤ i := by omega
              repeat (first | refine N.seq ?_ | refine N.blk ?_ | refine W.seq rfl ?_ | refine W.block rfl ?_ | refine W.skip rfl ?_ | refine W.ret rfl ?_ | refine N.nil ?_ | refine N.loop ?_ | refine W.exit rfl ?_ | refine X.seq ?_ | refine X.loop ?_ | refine X.hit ?_ | refine X.pass (by decide) ?_ | refine W.condT rfl (by rfl) ?_ | refine W.condF rfl (by rfl) ?_ | refine W.region tm lm_specs_ok rfl (by conv => lhs; simp [q3, q4, q5, q6, hwi, hy, hz, Pn.cells, uc]) fun _ => ?_ | refine W.regionD tm lm_specs_ok rfl (by conv => lhs; simp [q3, q4, q5, q6, hwi, hy, hz, Pn.cells, uc]) (by conv => lhs; simp) (by kernel_rfl) fun _ => ?_)
              exact ⟨⟨(i + 1, id == z, _), hil, fun e => by subst e; rw [hid] at hz; cases hz; simp, h1, h2⟩, by dsimp only; omega, AS.le_of rfl ⟨rfl, rfl, rfl, rfl, rfl, rfl, rfl, rfl, rfl, rfl, rfl, trivial⟩ (fun _ => rfl)⟩
            · have q5 : ¬ (i : Int) < x.length := by omega
              have q6 : ¬ i < x.length := by omega
              have q7 : x.length ≤ i := by omega
              repeat (first | refine N.seq ?_ | refine N.blk ?_ | refine W.seq rfl ?_ | refine W.block rfl ?_ | refine W.skip rfl ?_ | refine W.ret rfl ?_ | refine N.nil ?_ | refine N.loop ?_ | refine W.exit rfl ?_ | refine X.seq ?_ | refine X.loop ?_ | refine X.hit ?_ | refine X.pass (by decide) ?_ | refine W.condT rfl (by rfl) ?_ | refine W.condF rfl (by rfl) ?_ | refine W.region tm lm_specs_ok rfl (by conv => lhs; simp [q3, q4, q5, q6, q7, hwi]) fun _ => ?_ | refine W.regionD tm lm_specs_ok rfl (by conv => lhs; simp [q3, q4, q5, q6, q7, hwi]) (by conv => lhs; simp) (by kernel_rfl) fun _ => ?_)
              exact ⟨⟨(i + 1, false, _), hil, fun e => by subst e; omega, h1, h2⟩, by dsimp only; omega, AS.le_of rfl ⟨rfl, rfl, rfl, rfl, rfl, rfl, rfl, rfl, rfl, rfl, rfl, trivial⟩ (fun _ => rfl)⟩
noncomputable def movS : SpecFn := mkS encLM fun _ => (.bool true, [])
theorem mov_ok : FnC Try.prog 6 movS := by
  refine FnC.walk 6 (fn := Try.f6) Try.func6 rfl (by kernel_rfl) fun x => ?_
  obtain ⟨L, M, hL, hM⟩ := x
  change W _ (Ret _ _ (.bool true) []) _ _ ⟨165, [(0, .list 1 (L.map ic)), (1, .list 1 (M.map ic))], []⟩
  exact moves_walk (made2 L M) (isP_plP L) (placesS_eq L hL) (groupsS_eq M hM 1 (nds L) (plP L) (plR L).1 (isP_plP L) (by have := nds_len L; omega) (by have := plR_len L; omega))
end Go.Abs.Po
