/- What makes tokens: lengths and equations. Conditions: none. -/
import Derived.Test.YtbndcamifghfaaaNa7
import Derived.Test.YtbndcamifghfaaaAb6
import Derived.Test.YtbndcamifghfaaaAb8
namespace Go.Abs.Na
open Go Go.Proofs Go.Abs
set_option maxRecDepth 100000
set_option maxHeartbeats 4000000
set_option linter.unusedSimpArgs false
set_option linter.unusedVariables false
theorem wntS_eq (d : Tks) (id m home : Int) : wntS [d.v, .int .u64 id, .int .i64 m, .int .i64 home] [] = some (rU (wnt d id m home).1 (wnt d id m home).2.1 (wnt d id m home).2.2.1 (wnt d id m home).2.2.2, []) :=
  mkS_eq (enc := fun d : Tks × Int × Int × Int => [d.1.v, .int .u64 d.2.1, .int .i64 d.2.2.1, .int .i64 d.2.2.2]) (res := fun d => (rU (wnt d.1 d.2.1 d.2.2.1 d.2.2.2).1 (wnt d.1 d.2.1 d.2.2.1 d.2.2.2).2.1 (wnt d.1 d.2.1 d.2.2.1 d.2.2.2).2.2.1 (wnt d.1 d.2.1 d.2.2.1 d.2.2.2).2.2.2, [])) (fun x y h => by
    obtain ⟨a, b, c, e⟩ := x
    obtain ⟨a', b', c', e'⟩ := y
    simp only [List.cons.injEq, AV.int.injEq, true_and, and_true] at h
    obtain ⟨h, rfl, rfl, rfl⟩ := h
    cases Tks.v_inj h
    rfl) (d, id, m, home)
theorem Msg.v_inj {a b : Msg} (h : a.v = b.v) : a = b := by
  obtain ⟨a1, a2, a3, a4, a5, o, a6, a7, a8, a9⟩ := a
  obtain ⟨b1, b2, b3, b4, b5, q, b6, b7, b8, b9⟩ := b
  simp only [Msg.v, List.cons.injEq, AV.int.injEq, true_and] at h
  obtain ⟨rfl, rfl, rfl, rfl, rfl, h⟩ := h
  obtain ⟨h1, h2⟩ := List.append_inj h (by simp)
  simp only [List.cons.injEq, AV.int.injEq, true_and, and_true] at h2
  obtain ⟨rfl, rfl, rfl, rfl⟩ := h2
  rw [Td.ext h1]
theorem grtS_eq (d : Tks) (m : Msg) : grtS [d.v, .agg m.v] [] = some (rT (grt d m).1 (grt d m).2.1 (grt d m).2.2, []) :=
  mkS_eq (enc := fun d : Tks × Msg => [d.1.v, .agg d.2.v]) (res := fun d => (rT (grt d.1 d.2).1 (grt d.1 d.2).2.1 (grt d.1 d.2).2.2, [])) (fun x y h => by
    obtain ⟨a, b⟩ := x
    obtain ⟨a', b'⟩ := y
    simp only [List.cons.injEq, AV.agg.injEq, and_true] at h
    cases Tks.v_inj h.1
    cases Msg.v_inj h.2
    rfl) (d, m)
theorem rvkS_eq (d : Tks) (m : Msg) : rvkS [d.v, .agg m.v] [] = some (rU (rvk d m).1 (rvk d m).2.1 (rvk d m).2.2.1 (rvk d m).2.2.2, []) :=
  mkS_eq (enc := fun d : Tks × Msg => [d.1.v, .agg d.2.v]) (res := fun d => (rU (rvk d.1 d.2).1 (rvk d.1 d.2).2.1 (rvk d.1 d.2).2.2.1 (rvk d.1 d.2).2.2.2, [])) (fun x y h => by
    obtain ⟨a, b⟩ := x
    obtain ⟨a', b'⟩ := y
    simp only [List.cons.injEq, AV.agg.injEq, and_true] at h
    cases Tks.v_inj h.1
    cases Msg.v_inj h.2
    rfl) (d, m)
noncomputable def rvkN : SpecFn := nS Try.prog [69, 50] rvkS
theorem rvkN_ok : FnC Try.prog 73 rvkN := rvk_ok.nrm _
theorem rvkN_eq0 (d : Tks) (f t k i m : Int) : rvkN [d.v, .agg (.int .i64 f :: .int .i64 t :: .int .i64 k :: .int .u64 i :: .int .i64 m :: (zO ++ [.int .u64 0, .int .i64 0, .int .u64 0, .int .i64 0]))] [] = some (rU (rvk d ⟨f, t, k, i, m, zOb, 0, 0, 0, 0⟩).1 (rvk d ⟨f, t, k, i, m, zOb, 0, 0, 0, 0⟩).2.1 (rvk d ⟨f, t, k, i, m, zOb, 0, 0, 0, 0⟩).2.2.1 (rvk d ⟨f, t, k, i, m, zOb, 0, 0, 0, 0⟩).2.2.2, []) := by
  rw [rvkN, nS_eq]
  simp only [nrmL]
  rw [show nrmV Try.prog 69 d.v = d.v from tks_nrmV _ _, show nrmV Try.prog 50 (.agg (.int .i64 f :: .int .i64 t :: .int .i64 k :: .int .u64 i :: .int .i64 m :: (zO ++ [.int .u64 0, .int .i64 0, .int .u64 0, .int .i64 0]))) = .agg (⟨f, t, k, i, m, zOb, 0, 0, 0, 0⟩ : Msg).v by rw [nrmV, msg_nrm0]]
  exact rvkS_eq d _
/-! ### Lengths -/
theorem wnt_len (d : Tks) (id m home : Int) : (wnt d id m home).2.1.length ≤ d.toks.length + 1 := by
  unfold wnt
  dsimp only
  repeat' split
  all_goals first | exact Nat.zero_le _ | exact Nat.le_succ _ | exact put_len _ _
theorem grt_len (d : Tks) (m : Msg) : (grt d m).2.1.length ≤ d.toks.length + 1 := by
  unfold grt
  dsimp only
  repeat' split
  all_goals first | exact Nat.zero_le _ | exact Nat.le_succ _ | exact put_len _ _
theorem rvk_len (d : Tks) (m : Msg) : (rvk d m).2.1.length ≤ d.toks.length + 1 := by
  unfold rvk
  dsimp only
  repeat' split
  all_goals first | exact Nat.zero_le _ | exact Nat.le_succ _ | exact put_len _ _
theorem pinL_len (d : Tks) (id m : Int) : (pinL d id m).2.1.length ≤ d.toks.length + 1 := by
  unfold pinL
  dsimp only
  repeat' split
  all_goals first | exact Nat.zero_le _ | exact Nat.le_succ _ | exact put_len _ _
theorem putoL_len (d : Tks) (id : Int) (o : Ob) : (putoL d id o).2.1.length ≤ d.toks.length + 1 := by
  unfold putoL
  dsimp only
  repeat' split
  all_goals first | exact Nat.zero_le _ | exact Nat.le_succ _ | exact put_len _ _
theorem mkeL_len (d : Tks) (o : Ob) : (mkeL d o).2.1.length ≤ d.toks.length + 1 := by
  unfold mkeL
  dsimp only
  repeat' split
  all_goals first | exact Nat.zero_le _ | exact Nat.le_succ _ | exact put_len _ _
/-! ### A device -/
def dvC (id n : Int) : List AV := [.int .u64 id, .int .i64 9, .int .i64 0, .int .i64 0, .int .u64 0, .nils, .nils, .nils, .int .i64 0, .int .i64 0, .int .i64 0, .int .i64 0, .int .i64 0, .int .i64 0, .int .i64 0, .int .i64 0, .int .i64 0, .int .i64 0, .nils, .nils, .int .i64 0, .int .i64 0, .int .i64 0, .nils, .nils, .int .i64 0, .int .u64 0, .int .i64 0, .int .i64 0, .nils, .nils, .nils, .int .i64 0, .int .i64 0, .int .i64 n, .nils]
def dvN (id n : Int) : List AV := [.int .u64 id, .int .i64 9, .int .i64 0, .int .i64 0, .int .u64 0, .list 1 [], .list 4 [], .list 1 [], .int .i64 0, .int .i64 0, .int .i64 0, .int .i64 0, .int .i64 0, .int .i64 0, .int .i64 0, .int .i64 0, .int .i64 0, .int .i64 0, .list 2 [], .list 4 [], .int .i64 0, .int .i64 0, .int .i64 0, .list 1 [], .list 1 [], .int .i64 0, .int .u64 0, .int .i64 0, .int .i64 0, .list 1 [], .list 1 [], .list 1 [], .int .i64 0, .int .i64 0, .int .i64 n, .list 3 []]
theorem dv_nrm (id n : Int) : nrmL Try.prog (leafs Try.prog 48) (dvC id n) = dvN id n := by kernel_rfl
theorem wf0i : (Lit.int .i64 0).wf = true := by decide
theorem wf9i : (Lit.int .i64 9).wf = true := by decide
theorem wf0u : (Lit.int .u64 0).wf = true := by decide
theorem dv_p {id n : Int} (h1 : (Lit.int .u64 id).wf = true) (h2 : (Lit.int .i64 n).wf = true) : tyP Try.prog 8 48 (dvN id n) = some [] := by
  simp [tyP, tyFsP, tyB, tyI, tyS, dvN, List.replicate, Try.underlying48, Try.underlying30, Try.underlying3, Try.underlying42, Try.underlying31, Try.underlying35, Try.underlying32, Try.underlying33, Try.underlying38, Try.underlying36, Try.underlying2, Try.underlying39, Try.underlying40, Try.underlying43, Try.underlying22, Try.underlying44, Try.underlying45, Try.underlying46, vc30, vc252, vc9, vc224, vc227, vc2, vc5, vc137, h1, h2, wf0i, wf9i, wf0u]
theorem dv_ty {id n : Int} (h1 : (Lit.int .u64 id).wf = true) (h2 : (Lit.int .i64 n).wf = true) : TyR Try.prog 8 48 (dvN id n) := by
  obtain ⟨a, e1, e2⟩ := tyP_ok 8 _ _ _ (dv_p h1 h2)
  rw [List.append_nil] at e1
  rw [e1]
  exact e2
theorem dv_bd (id n : Int) : bdL 10000 (dvN id n) = true := by kernel_rfl
def dvO (id n : Int) (h1 : (Lit.int .u64 id).wf = true) (h2 : (Lit.int .i64 n).wf = true) : Ob := ⟨dvN id n, dv_ty h1 h2, dv_bd id n⟩
theorem idV_wf (l : List UInt8) : (Lit.int .u64 (idV l)).wf = true := by
  unfold idV mk3
  generalize ((IntKind.u64.wrap ↑((IntKind.u64.wrap (IntKind.u64.wrap (dn l 3) * 2 ^ min 56 IntKind.u64.bits) % 2 ^ IntKind.u64.bits).toNat ||| (IntKind.u64.wrap (IntKind.u64.wrap (dn (d1 l) 2) * 2 ^ min 40 IntKind.u64.bits) % 2 ^ IntKind.u64.bits).toNat) % 2 ^ IntKind.u64.bits).toNat ||| (IntKind.u64.wrap (1 + dn (d2 l) 9) % 2 ^ IntKind.u64.bits).toNat) = x
  simp only [Lit.wf, IntKind.wrap, IntKind.min, IntKind.max, IntKind.signed, IntKind.bits]
  simp
  omega
end Go.Abs.Na
namespace Go.Abs.Na
open Go Go.Proofs Go.Abs
set_option maxRecDepth 100000
set_option maxHeartbeats 4000000
set_option linter.unusedSimpArgs false
set_option linter.unusedVariables false
attribute [local simp] instA
attribute [-simp] mkv
attribute [local simp] mkv_hd hdA_cons hdA_ob hdA_ob'
def MdP (ds : List UInt8) (r : AV × List ABlk) : Prop := ∃ (n : Int) (l : List Tok) (ds' : List UInt8), l.length ≤ 16 ∧ r = (.agg [.int .i64 n, .list 41 (l.map Tok.c)], [diceB ds'])
noncomputable def md_specs : NL Spec := [(26, ⟨3, diceS⟩), (25, ⟨3, idS⟩), (71, ⟨1, wntS⟩), (72, ⟨1, grtS⟩), (73, ⟨1, rvkN⟩), (28, ⟨1, pinS⟩), (33, ⟨1, mkeS⟩), (31, ⟨1, putoS⟩)]
theorem md_specs_ok : ∀ p ∈ md_specs, FnC Try.prog p.1 p.2.fn := by
  simp only [md_specs, List.mem_cons, List.not_mem_nil, or_false]
  rintro p (rfl | rfl | rfl | rfl | rfl | rfl | rfl | rfl)
  · exact dice_ok
  · exact id_ok
  · exact wnt_ok
  · exact grt_ok
  · exact rvkN_ok
  · exact pinr_ok
  · exact mker_ok
  · exact putor_ok
attribute [local simp] md_specs
theorem encD1_inj : ∀ x y : List UInt8, encD1 x = encD1 y → x = y := fun x y h => by
  simp only [encD1, Prod.mk.injEq, List.cons.injEq, true_and, and_true] at h
  exact diceB_inj h
def tkN (g : Nat) (n : Int) (l : List Tok) : ABlk := { gen := g, kind := 2, elem := 69, size := 2, inl := false, rows := [[.int .i64 n, .list 41 (l.map Tok.c)]] }
def dvB (g : Nat) (o : Ob) : ABlk := { gen := g, kind := 2, elem := 48, size := 36, inl := false, rows := [o.cells] }
theorem md_ex : ∃ S, FnC Try.prog 24 S ∧ ∀ ds, ∃ r, S (encD1 ds).1 (encD1 ds).2 = some r ∧ MdP ds r := by
  refine FnC.existsB 24 (fn := Try.f24) Try.func24 rfl (by kernel_rfl) (fun x b hb => by simp [encD1] at hb; rw [hb]; rfl) encD1_inj (fun ds => ⟨_, 0, [], ds, by simp, rfl⟩) fun ds => ?_
  change W _ _ _ _ ⟨94, [(0, .ptr 0 0 0 0)], [(0, diceB ds)]⟩
  have c1 := diceS_eq ds 3
  have c2 := diceS_eq (dl ds 3) 16
  have b2 := dn_lt (dl ds 3) (n := 16) (by omega)
  have b1 := dn_nonneg (dl ds 3) 16
  generalize dl ds 3 = e1 at *
  generalize dl e1 16 = e2 at *
  generalize dn ds 3 = nd at *
  obtain ⟨kk, hkk⟩ : ∃ k : Nat, dn e1 16 = k := ⟨_, (Int.toNat_of_nonneg b1).symm⟩
  rw [hkk] at c2 b2
  simp only [diceB] at c1 c2 ⊢
  repeat' (first | refine ZV ?_ | refine ZB tm md_specs_ok ?_ | refine ZH (fun hb => ?_) (fun hb => ?_) | refine ZJ (by conv => lhs; simp [c1, c2]) ?_ | refine ZA (fun hb => ?_) (fun hb => ?_))
  refine W.nrmB 64 (leafs Try.prog 69) rfl rfl ?_
  rw [show ([[AV.int .i64 nd, .nils]] : List (List AV)).map (nrmL Try.prog (leafs Try.prog 69)) = [[.int .i64 nd, .list 41 (([] : List Tok).map Tok.c)]] by
    have := tks_nrmV0 nd
    simp only [nrmV, AV.agg.injEq] at this
    rw [List.map_cons, List.map_nil, this]]
  refine W.loop rfl (ι := { q : Nat × NL ABlk × Int × List Tok × List UInt8 × Nat // q.2.2.2.1.length + q.1 ≤ 16 ∧ lk q.2.1 0 = some (diceB q.2.2.2.2.1) ∧ lk q.2.1 48 = some { gen := 1, kind := 2, elem := 69, size := 2, inl := false, rows := [[.int .i64 0, .nils]] } ∧ lk q.2.1 64 = some (tkN q.2.2.2.2.2 q.2.2.1 q.2.2.2.1) })
    (fun q => ⟨94, [(0, .ptr 0 0 0 0), (2, .ptr 48 1 0 0), (3, .ptr 64 q.1.2.2.2.2.2 0 0), (4, .int .i64 (q.1.1 : Nat))], q.1.2.1⟩) (fun q => q.1.1)
    ⟨(kk, _, nd, [], e2, 1), by simp; omega, rfl, rfl, rfl⟩ (AS.le_of rfl ⟨rfl, rfl, rfl, rfl, trivial⟩ (fun _ => rfl)) ?_
  clear c1 c2 hkk b1 b2
  rintro ⟨⟨k, h, n, l, ds, g⟩, hk, h0, h1, h2⟩
  dsimp only at hk h0 h1 h2 ⊢
  by_cases hk0 : k = 0
  · subst hk0
    simp only [diceB, tkN] at h0 h2
    repeat' (first | refine ZV ?_ | refine ZB tm md_specs_ok ?_ | refine ZH (fun hb => ?_) (fun hb => ?_) | refine ZJ (by conv => lhs; simp [h0, h1, h2]) ?_ | refine ZA (fun hb => ?_) (fun hb => ?_))
    refine ⟨(.agg [.int .i64 n, .list 41 (l.map Tok.c)], [diceB ds]), ⟨n, l, ds, by omega, rfl⟩, ?_⟩
    refine RetB.mk true [0] rfl (by conv => lhs; simp) (by conv => lhs; simp [frqT, frqV, frqVs, frqL, frq1, h2]) (by decide) (by rintro j hj; have hj : j < 1 := hj; rcases (show j = 0 by omega) with rfl; exact ⟨rfl, by simp [lk_st, h0]⟩) (by simp [lk_st, h0, diceB]) (by simp)
  · have q1 : (0 : Int) < (k : Int) := by omega
    have hw : IntKind.i64.wrap ((k : Int) - 1) = ((k - 1 : Nat) : Int) := by rw [w64 (by omega) (by omega)]; omega
    have cid := idS_eq ds
    have cd := diceS_eq (d3 ds) 6
    have r0 := dn_nonneg (d3 ds) 6
    have r6 := dn_lt (d3 ds) (n := 6) (by omega)
    have wi := idV_wf ds
    have wk : (Lit.int .i64 (k : Int)).wf = true := by
      simp only [Lit.wf, IntKind.min, IntKind.max, IntKind.signed, IntKind.bits]
      simp
      omega
    generalize d3 ds = e at *
    generalize idV ds = id at *
    generalize dn e 6 = r at *
    generalize dl e 6 = f at *
    simp only [diceB, tkN] at h0 h2 cid cd
    have q0 : 0 < k := by omega
    repeat' (first | refine ZV ?_ | refine ZB (id := 3) tm md_specs_ok ?_ | refine ZB (id := 4) tm md_specs_ok ?_ | refine ZB (id := 5) tm md_specs_ok ?_ | refine ZB (id := 6) tm md_specs_ok ?_ | refine ZH (fun hb => ?_) (fun hb => ?_) | refine ZJ (by conv => lhs; simp [q1, q0, h0, h1, h2, cid]) ?_ | refine ZA (fun hb => ?_) (fun hb => ?_))
    refine W.nrmB 112 (leafs Try.prog 48) (by simp [lk_st]; rfl) rfl ?_
    have hz := dv_nrm id k
    simp only [dvC] at hz
    simp only [List.map_cons, List.map_nil, hz]
    rw [show dvN id k = (dvO id k wi wk).cells from rfl]
    generalize dvO id k wi wk = q
    have hl : l.length ≤ 9000 := by omega
    clear hz wi wk cid
    rcases (show r = 0 ∨ r = 1 ∨ r = 2 ∨ r = 3 ∨ r = 4 ∨ r = 5 by omega) with rfl | rfl | rfl | rfl | rfl | rfl
    · have cA := diceS_eq f 2
      have cB := diceS_eq (dl f 2) 3
      have a0 := dn_nonneg f 2
      have a1 := dn_lt f (n := 2) (by omega)
      have cW := wntS_eq ⟨n, l, hl⟩ id (1 + dn f 2) (dn (dl f 2) 3)
      have hL := wnt_len ⟨n, l, hl⟩ id (1 + dn f 2) (dn (dl f 2) 3)
      generalize wnt ⟨n, l, hl⟩ id (1 + dn f 2) (dn (dl f 2) 3) = R at *
      have hw1 : IntKind.i64.wrap (1 + dn f 2) = 1 + dn f 2 := w64 (by omega) (by omega)
      generalize dn f 2 = a at *
      generalize dn (dl f 2) 3 = b at *
      generalize dl (dl f 2) 3 = z at *
      generalize dl f 2 = y at *
      obtain ⟨n', l', ms', e'⟩ := R
      simp only [Tks.v, rU, diceB] at cA cB cW hL
      repeat' (first | refine ZV ?_ | refine ZB tm md_specs_ok ?_ | refine ZH (fun hb => ?_) (fun hb => ?_) | refine ZJ (by conv => lhs; simp [q1, q0, h0, h1, h2, cd, hw, cA, cB, cW, hw1]) ?_ | refine ZA (fun hb => ?_) (fun hb => ?_))
      · exact ⟨⟨(k - 1, _, n', l', z, g), by dsimp only; omega, by simp [lk_st, diceB], by simp [lk_st, h1], by simp [lk_st, tkN]⟩, by dsimp only; omega, AS.le_of rfl ⟨rfl, rfl, rfl, rfl, trivial⟩ (fun _ => rfl)⟩
      · exact ⟨⟨(k - 1, _, n, l, z, g), by dsimp only; omega, by simp [lk_st, diceB], by simp [lk_st, h1], by simp [lk_st, tkN, h2]⟩, by dsimp only; omega, AS.le_of rfl ⟨rfl, rfl, rfl, rfl, trivial⟩ (fun _ => rfl)⟩
    · have cA := diceS_eq f 2
      have a0 := dn_nonneg f 2
      have a1 := dn_lt f (n := 2) (by omega)
      have cW := grtS_eq ⟨n, l, hl⟩ ⟨0, n, 2, id, 1 + dn f 2, q, 0, 0, 0, 0⟩
      have hL := grt_len ⟨n, l, hl⟩ ⟨0, n, 2, id, 1 + dn f 2, q, 0, 0, 0, 0⟩
      generalize grt ⟨n, l, hl⟩ ⟨0, n, 2, id, 1 + dn f 2, q, 0, 0, 0, 0⟩ = R at *
      have hw1 : IntKind.i64.wrap (1 + dn f 2) = 1 + dn f 2 := w64 (by omega) (by omega)
      generalize dn f 2 = a at *
      generalize dl f 2 = z at *
      obtain ⟨n', l', e'⟩ := R
      simp only [Tks.v, rT, Msg.v, diceB] at cA cW hL
      repeat' (first | refine ZV ?_ | refine ZB tm md_specs_ok ?_ | refine ZH (fun hb => ?_) (fun hb => ?_) | refine ZJ (by conv => lhs; simp [q1, q0, h0, h1, h2, cd, hw, cA, cW, hw1]) ?_ | refine ZA (fun hb => ?_) (fun hb => ?_))
      · exact ⟨⟨(k - 1, _, n', l', z, g), by dsimp only; omega, by simp [lk_st, diceB], by simp [lk_st, h1], by simp [lk_st, tkN]⟩, by dsimp only; omega, AS.le_of rfl ⟨rfl, rfl, rfl, rfl, trivial⟩ (fun _ => rfl)⟩
      · exact ⟨⟨(k - 1, _, n, l, z, g), by dsimp only; omega, by simp [lk_st, diceB], by simp [lk_st, h1], by simp [lk_st, tkN, h2]⟩, by dsimp only; omega, AS.le_of rfl ⟨rfl, rfl, rfl, rfl, trivial⟩ (fun _ => rfl)⟩
    · have cW := rvkN_eq0 ⟨n, l, hl⟩ 0 n 3 id 0
      have hL := rvk_len ⟨n, l, hl⟩ ⟨0, n, 3, id, 0, zOb, 0, 0, 0, 0⟩
      generalize rvk ⟨n, l, hl⟩ ⟨0, n, 3, id, 0, zOb, 0, 0, 0, 0⟩ = R at *
      obtain ⟨n', l', ms', e'⟩ := R
      obtain ⟨z, hz⟩ : ∃ z, f = z := ⟨_, rfl⟩
      subst hz
      simp only [Tks.v, rU, zO, List.cons_append, List.nil_append] at cW hL
      repeat' (first | refine ZV ?_ | refine ZB tm md_specs_ok ?_ | refine ZH (fun hb => ?_) (fun hb => ?_) | refine ZJ (by conv => lhs; simp [q1, q0, h0, h1, h2, cd, hw, cW]) ?_ | refine ZA (fun hb => ?_) (fun hb => ?_))
      · exact ⟨⟨(k - 1, _, n', l', f, g), by dsimp only; omega, by simp [lk_st, diceB], by simp [lk_st, h1], by simp [lk_st, tkN]⟩, by dsimp only; omega, AS.le_of rfl ⟨rfl, rfl, rfl, rfl, trivial⟩ (fun _ => rfl)⟩
      · exact ⟨⟨(k - 1, _, n, l, f, g), by dsimp only; omega, by simp [lk_st, diceB], by simp [lk_st, h1], by simp [lk_st, tkN, h2]⟩, by dsimp only; omega, AS.le_of rfl ⟨rfl, rfl, rfl, rfl, trivial⟩ (fun _ => rfl)⟩
    · have cW := pinS_eq ⟨n, l, hl⟩ id 1
      have hL := pinL_len ⟨n, l, hl⟩ id 1
      generalize pinL ⟨n, l, hl⟩ id 1 = R at *
      obtain ⟨n', l', e'⟩ := R
      obtain ⟨z, hz⟩ : ∃ z, f = z := ⟨_, rfl⟩
      subst hz
      simp only [Tks.v, rT] at cW hL
      repeat' (first | refine ZV ?_ | refine ZB tm md_specs_ok ?_ | refine ZH (fun hb => ?_) (fun hb => ?_) | refine ZJ (by conv => lhs; simp [q1, q0, h0, h1, h2, cd, hw, cW]) ?_ | refine ZA (fun hb => ?_) (fun hb => ?_))
      · exact ⟨⟨(k - 1, _, n', l', f, g), by dsimp only; omega, by simp [lk_st, diceB], by simp [lk_st, h1], by simp [lk_st, tkN]⟩, by dsimp only; omega, AS.le_of rfl ⟨rfl, rfl, rfl, rfl, trivial⟩ (fun _ => rfl)⟩
      · exact ⟨⟨(k - 1, _, n, l, f, g), by dsimp only; omega, by simp [lk_st, diceB], by simp [lk_st, h1], by simp [lk_st, tkN, h2]⟩, by dsimp only; omega, AS.le_of rfl ⟨rfl, rfl, rfl, rfl, trivial⟩ (fun _ => rfl)⟩
    · have cW := mkeS_eq ⟨n, l, hl⟩ q
      have hL := mkeL_len ⟨n, l, hl⟩ q
      generalize mkeL ⟨n, l, hl⟩ q = R at *
      obtain ⟨n', l', e'⟩ := R
      obtain ⟨z, hz⟩ : ∃ z, f = z := ⟨_, rfl⟩
      subst hz
      simp only [Tks.v, rT] at cW hL
      repeat' (first | refine ZV ?_ | refine ZB tm md_specs_ok ?_ | refine ZH (fun hb => ?_) (fun hb => ?_) | refine ZJ (by conv => lhs; simp [q1, q0, h0, h1, h2, cd, hw, cW]) ?_ | refine ZA (fun hb => ?_) (fun hb => ?_))
      · exact ⟨⟨(k - 1, _, n', l', f, g), by dsimp only; omega, by simp [lk_st, diceB], by simp [lk_st, h1], by simp [lk_st, tkN]⟩, by dsimp only; omega, AS.le_of rfl ⟨rfl, rfl, rfl, rfl, trivial⟩ (fun _ => rfl)⟩
      · exact ⟨⟨(k - 1, _, n, l, f, g), by dsimp only; omega, by simp [lk_st, diceB], by simp [lk_st, h1], by simp [lk_st, tkN, h2]⟩, by dsimp only; omega, AS.le_of rfl ⟨rfl, rfl, rfl, rfl, trivial⟩ (fun _ => rfl)⟩
    · have cW := putoS_eq ⟨n, l, hl⟩ id q
      have hL := putoL_len ⟨n, l, hl⟩ id q
      generalize putoL ⟨n, l, hl⟩ id q = R at *
      obtain ⟨n', l', e'⟩ := R
      obtain ⟨z, hz⟩ : ∃ z, f = z := ⟨_, rfl⟩
      subst hz
      simp only [Tks.v, rT] at cW hL
      repeat' (first | refine ZV ?_ | refine ZB tm md_specs_ok ?_ | refine ZH (fun hb => ?_) (fun hb => ?_) | refine ZJ (by conv => lhs; simp [q1, q0, h0, h1, h2, cd, hw, cW]) ?_ | refine ZA (fun hb => ?_) (fun hb => ?_))
      · exact ⟨⟨(k - 1, _, n', l', f, g), by dsimp only; omega, by simp [lk_st, diceB], by simp [lk_st, h1], by simp [lk_st, tkN]⟩, by dsimp only; omega, AS.le_of rfl ⟨rfl, rfl, rfl, rfl, trivial⟩ (fun _ => rfl)⟩
      · exact ⟨⟨(k - 1, _, n, l, f, g), by dsimp only; omega, by simp [lk_st, diceB], by simp [lk_st, h1], by simp [lk_st, tkN, h2]⟩, by dsimp only; omega, AS.le_of rfl ⟨rfl, rfl, rfl, rfl, trivial⟩ (fun _ => rfl)⟩
end Go.Abs.Na
namespace Go.Abs.Na
open Go Go.Proofs Go.Abs
set_option maxRecDepth 100000
set_option maxHeartbeats 4000000
set_option linter.unusedSimpArgs false
set_option linter.unusedVariables false
theorem tNV : Try.prog.funcs.all (fun fn => !(fn.name == "runtime.NumGoroutine")) = true := by kernel_rfl
def base : NL SpecFn := [(156, deleteC 77 41), (162, cloneC 77 41 496)]
theorem base_ok : ∀ f S, lk base f = some S → FnC Try.prog f S := by
  intro f S h
  simp only [base, lk] at h
  split at h
  · rename_i e; subst e; cases h; exact delete156_ok
  split at h
  · rename_i e; subst e; cases h; exact clone162_ok
  · cases h
noncomputable def run (f : FuncId) : SpecFn := runB Try.prog base 1000 40 f
theorem run_ok (f : FuncId) {fn : Func} {body : Code} (hf : Try.prog.funcs[f]? = some fn) (hb : fn.body = some body) : FnC Try.prog f (run f) := runB_ok base_ok tm tNV 40 f hf hb
noncomputable def pf (f : FuncId) : SpecFn := pureS (run f)
theorem pf_ok (f : FuncId) {fn : Func} {body : Code} (hf : Try.prog.funcs[f]? = some fn) (hb : fn.body = some body) : FnC Try.prog f (pf f) := FnC.pure (run_ok f hf hb)
theorem sane_eq : pf 20 [] [] = some (.bool true, []) := by kernel_rfl
theorem sane_ex : ∃ S, FnC Try.prog 20 S ∧ S [] [] = some (.bool true, []) := ⟨_, pf_ok 20 Try.func20 rfl, sane_eq⟩
end Go.Abs.Na
namespace Go.Abs.Na
open Go Go.Proofs Go.Abs
set_option maxRecDepth 100000
set_option maxHeartbeats 4000000
set_option linter.unusedSimpArgs false
set_option linter.unusedVariables false
attribute [local simp] instA
attribute [-simp] mkv
attribute [local simp] mkv_hd hdA_cons hdA_ob hdA_ob'
structure Pin where
  raw : Raw9 69
  seeds : List UInt8
  id : Int
  mode : Int
  homes : List Int
  o : Raw 48
  hh : homes.length ≤ maxLen
  wi : (Lit.int .u64 id).wf = true
def encPin (x : Pin) : List AV := [.agg x.raw.1, .list 1 (x.seeds.map byte), .int .u64 x.id, .int .i64 x.mode, .list 1 (x.homes.map iC), .agg x.o.1]
def diceG (g : Nat) (l : List UInt8) : ABlk := { gen := g, kind := 2, elem := 140, size := 1, rows := [[.list 1 (l.map byte)]] }
def niB (g : Nat) (l : List Int) : ABlk := { gen := g, kind := 2, elem := 3, size := 1, inl := true, rows := l.map iC }
def IsI (id : Nat) (h : NL ABlk) (P : AV) (l : List Int) : Prop := (P = .nils ∧ l = []) ∨ ∃ g, P = .sl id g 0 l.length ∧ lk h id = some (niB g l)
theorem bneI (a : Int) : (a != a) = false := by simp
theorem unp_len (d : Tks) (hs : List Int) : (unp d hs).2.1.length ≤ d.toks.length ∧ (unp d hs).2.2.1.length ≤ d.toks.length := by
  unfold unp
  split
  · exact ⟨Nat.zero_le _, Nat.zero_le _⟩
  · split
    · exact ⟨Nat.zero_le _, Nat.zero_le _⟩
    · refine ⟨unpL_len _, ?_⟩
      show (unpM d.node d.toks hs).length ≤ _
      unfold unpM
      rw [List.length_zipWith]
      have : (dues d.toks).length ≤ d.toks.length := List.length_filter_le _ _
      omega
theorem pins_ok : FnC Try.prog 6 (mkS encPin fun _ => (.bool true, [])) := by
  obtain ⟨SS, hSS, hse⟩ := sane_ex
  obtain ⟨ST, hST, hSTe⟩ := kpT_ex
  obtain ⟨SO, hSO, hSOe⟩ := kpO_ex
  obtain ⟨SM, hSM, hSMe⟩ := md_ex
  have specs_ok : ∀ p ∈ ([(20, ⟨1, SS⟩), (21, ⟨1, ST⟩), (22, ⟨1, SO⟩), (23, ⟨3, newS⟩), (24, ⟨3, SM⟩), (25, ⟨3, idS⟩), (26, ⟨3, diceS⟩), (27, ⟨1, pinS⟩), (28, ⟨1, pinS⟩), (30, ⟨1, putoS⟩), (31, ⟨1, putoS⟩), (32, ⟨1, mkeS⟩), (33, ⟨1, mkeS⟩), (34, ⟨1, unpsS⟩), (35, ⟨1, unpsS⟩), (29, ⟨1, lsS⟩), (36, ⟨1, lmS⟩)] : NL Spec), FnC Try.prog p.1 p.2.fn := by
    simp only [List.mem_cons, List.not_mem_nil, or_false]
    rintro p (rfl | rfl | rfl | rfl | rfl | rfl | rfl | rfl | rfl | rfl | rfl | rfl | rfl | rfl | rfl | rfl | rfl)
    · exact hSS
    · exact hST
    · exact hSO
    · exact new_ok
    · exact hSM
    · exact id_ok
    · exact dice_ok
    · exact pinp_ok
    · exact pinr_ok
    · exact putop_ok
    · exact putor_ok
    · exact mkep_ok
    · exact mker_ok
    · exact unq_ok
    · exact unr_ok
    · exact ls_ok
    · exact lm_ok
  refine FnC.walk 6 (fn := Try.f6) Try.func6 rfl (by kernel_rfl) fun x => ?_
  obtain ⟨raw, seeds, id, mode, homes, o, hh, wi⟩ := x
  obtain ⟨rT, cT, bT, rfl, hbT⟩ := hSTe raw
  obtain ⟨rO, cO, bO, rfl, hbO⟩ := hSOe o
  simp only [encR, encR9] at cT cO
  obtain ⟨rc, rty⟩ := raw
  obtain ⟨oc, oty⟩ := o
  dsimp only at hbT hbO cT cO
  change W _ (Ret _ _ (.bool true) []) _ _ ⟨257, [(0, .agg rc), (1, .list 1 (seeds.map byte)), (2, .int .u64 id), (3, .int .i64 mode), (4, .list 1 (homes.map iC)), (5, .agg oc)], []⟩
  obtain ⟨rn, rrows, rfl, -, -⟩ := viewTokens rty
  have r3 := raw_len oty
  have r0 := raw_all oty
  have hc : oc.all AV.cellish = true := by rw [List.all_eq_true] at r0 ⊢; intro x hx; exact (dat_split (r0 x hx)).1
  have hi : oc.all AV.isInl = true := by rw [List.all_eq_true] at r0 ⊢; intro x hx; exact (dat_split (r0 x hx)).2
  have r6 : ∀ b : Bool, oc.all (fun x => x.cellish && (!b || x.isInl)) = true := fun b => by
    rw [List.all_eq_true] at hc hi ⊢
    intro x hx
    simp [hc x hx, hi x hx]
  have r4 : oc.take 36 = oc := List.take_of_length_le (by omega)
  repeat' (first | refine ZV ?_ | refine ZB (id := 0) tm specs_ok ?_ | refine ZB (id := 1) tm specs_ok ?_ | refine ZB (id := 2) tm specs_ok ?_ | refine ZB (id := 3) tm specs_ok ?_ | refine ZB (id := 4) tm specs_ok ?_ | refine ZH (fun hb => ?_) (fun hb => ?_) | refine ZJ (by conv => lhs; simp [hse, cT, cO, r3, r4, r6, hc, hi, hh]) ?_ | refine ZA (fun hb => ?_) (fun hb => ?_))
  · exact Ret.dataR rfl (by conv => lhs; simp) (by conv => lhs; simp) rfl
  · exact Ret.dataR rfl (by conv => lhs; simp) (by conv => lhs; simp) rfl
  · exact Ret.dataR rfl (by conv => lhs; simp) (by conv => lhs; simp) rfl
  have hT : bT = true := by simpa using (by assumption : (!bT) = false)
  have hO : bO = true := by simpa using (by assumption : (!bO) = false)
  have hH : homes.length ≤ 20 := by have := of_decide_eq_false hb; omega
  obtain ⟨n0, l0, e0, hl0⟩ := hbT hT
  simp only [List.cons.injEq, AV.int.injEq, AV.list.injEq, true_and, and_true] at e0
  obtain ⟨rfl, rfl⟩ := e0
  obtain ⟨q, rfl⟩ : ∃ q : Ob, oc = q.cells := ⟨⟨oc, oty, hbO hO⟩, rfl⟩
  clear cT cO hbT hbO hc hi r0 r3 r4 r6 hb
  have cN := newS_eq seeds
  obtain ⟨rM, cM, n1, l1, ds1, hl1, rfl⟩ := hSMe (seeds.take 400)
  generalize seeds.take 400 = s4 at *
  have cI := idS_eq ds1
  have wi1 := idV_wf ds1
  generalize idV ds1 = id1 at *
  generalize d3 ds1 = ds2 at *
  simp only [encD1, diceB] at cN cM cI
  repeat' (first | refine ZV ?_ | refine ZB (id := 5) tm specs_ok ?_ | refine ZB (id := 6) tm specs_ok ?_ | refine ZB (id := 7) tm specs_ok ?_ | refine ZB (id := 8) tm specs_ok ?_ | refine ZH (fun hb => ?_) (fun hb => ?_) | refine ZJ (by conv => lhs; simp [cN, cM, cI]) ?_ | refine ZA (fun hb => ?_) (fun hb => ?_))
  refine W.nrmB 272 (leafs Try.prog 48) rfl rfl ?_
  have hz := dv_nrm id1 3
  simp only [dvC] at hz
  simp only [List.map_cons, List.map_nil, hz]
  rw [show dvN id1 3 = (dvO id1 3 wi1 (by decide)).cells from rfl]
  generalize dvO id1 3 wi1 (by decide) = q1
  have cap1 : l1.length ≤ 9223372036854775807 := by omega
  clear hz wi1 cN cM cI
  repeat' (first | refine ZV ?_ | refine ZB tm specs_ok ?_ | refine ZH (fun hb => ?_) (fun hb => ?_) | refine ZJ (by conv => lhs; simp [cap1]) ?_ | refine ZA (fun hb => ?_) (fun hb => ?_))
  refine W.loop rfl (ι := { p : Nat × NL ABlk × AV × List Int × List UInt8 // p.1 ≤ l1.length ∧ p.2.2.2.1.length ≤ p.1 ∧ lk p.2.1 112 = some (tkN 1 rn l0) ∧ lk p.2.1 192 = some (dvB 1 q) ∧ lk p.2.1 240 = some (tkN 1 n1 l1) ∧ lk p.2.1 272 = some (dvB 1 q1) ∧ lk p.2.1 1040 = some (diceG 1 p.2.2.2.2) ∧ IsI 1360 p.2.1 p.2.2.1 p.2.2.2.1 })
    (fun p => ⟨257, [(2, .int .u64 id), (3, .int .i64 mode), (4, .list 1 (homes.map iC)), (6, .ptr 112 1 0 0), (11, .ptr 192 1 0 0), (13, .ptr 1040 1 0 0), (14, .ptr 240 1 0 0), (15, .int .u64 id1), (16, .ptr 272 1 0 0), (17, p.1.2.2.1), (72, .list 41 (l1.map Tok.c)), (73, .int .i64 l1.length), (74, .int .i64 (p.1.1 : Nat))], p.1.2.1⟩) (fun p => l1.length - p.1.1)
    ⟨(0, _, .nils, [], ds2), by simp, by simp, rfl, rfl, rfl, rfl, rfl, .inl ⟨rfl, rfl⟩⟩ (AS.le_of rfl ⟨rfl, rfl, rfl, rfl, rfl, rfl, rfl, rfl, rfl, rfl, rfl, rfl, rfl, trivial⟩ (fun _ => rfl)) ?_
  rintro ⟨⟨k, h, P, fl, ds⟩, hk, hfl, h1, h2, h3, h4, h5, hP⟩
  dsimp only at hk hfl h1 h2 h3 h4 h5 hP ⊢
  by_cases hk2 : k = l1.length
  · subst hk2
    refine W.accD 17 (id := 1360) (s := 1) (e := 3) (l := fl.map iC) rfl (by
      rcases hP with ⟨a, b⟩ | ⟨g, a, b⟩
      · exact .inl ⟨a, by rw [b]; rfl⟩
      · exact .inr ⟨g, by rw [List.length_map]; exact a, b⟩) fun H hH => ?_
    rw [← hH 112 (by decide)] at h1
    rw [← hH 192 (by decide)] at h2
    rw [← hH 240 (by decide)] at h3
    rw [← hH 272 (by decide)] at h4
    clear hH hP h5
    have m2' : (2 : Nat) ≤ maxLen := by decide
    have m3' : (3 : Nat) ≤ maxLen := by decide
    have cs : ∀ (n : Int) (l : List Tok), l.length ≤ 9000 → lsS [.agg [.int .i64 n, .list 41 (l.map Tok.c)], .agg [.int .i64 n, .list 41 (l.map Tok.c)]] [] = some (.bool true, []) := fun n l h => lsS_eq ⟨n, l, h⟩
    simp only [tkN, dvB] at h1 h2 h3 h4
    repeat' (first | refine ZV ?_ | refine ZB tm specs_ok ?_ | refine ZH (fun hb => ?_) (fun hb => ?_) | refine ZJ (by conv => lhs; simp [h1, h2, h3, h4, m2']) ?_ | refine ZA (fun hb => ?_) (fun hb => ?_))
    refine W.frz 88 rfl (by conv => lhs; simp [frqT, frqV, frqVs, frqL, frq1, frz1]) ?_
    obtain ⟨rows2, hr2⟩ : ∃ R : List (List AV), R = [[AV.int IntKind.i64 rn, AV.list 41 (List.map Tok.c l0)], [AV.int IntKind.i64 n1, AV.list 41 (List.map Tok.c l1)]] := ⟨_, rfl⟩
    rw [← hr2]
    refine W.loop rfl (ι := { p : Nat × NL ABlk // p.1 ≤ 2 ∧ lk p.2 192 = some (dvB 1 q) ∧ lk p.2 272 = some (dvB 1 q1) })
      (fun p => ⟨257, [(2, .int .u64 id), (3, .int .i64 mode), (4, .list 1 (homes.map iC)), (11, .ptr 192 1 0 0), (15, .int .u64 id1), (16, .ptr 272 1 0 0), (17, .list 1 (fl.map iC)), (88, .list 2 rows2), (89, .int .i64 2), (90, .int .i64 (p.1.1 : Nat))], p.1.2⟩) (fun p => 2 - p.1.1)
      ⟨(0, _), by simp, by simp [lk_st, h2, dvB], by simp [lk_st, h4, dvB]⟩ (AS.le_of rfl ⟨rfl, rfl, rfl, rfl, rfl, rfl, rfl, rfl, rfl, rfl, trivial⟩ (fun _ => rfl)) ?_
    clear h1 h2 h3 h4
    rintro ⟨⟨k2, h⟩, hk2, h2, h4⟩
    dsimp only at hk2 h2 h4 ⊢
    by_cases e2 : k2 = 2
    · subst e2
      repeat' (first | refine ZV ?_ | refine ZB tm specs_ok ?_ | refine ZH (fun hb => ?_) (fun hb => ?_) | refine ZJ (by conv => lhs; simp) ?_ | refine ZA (fun hb => ?_) (fun hb => ?_))
      exact Ret.dataR rfl (by conv => lhs; simp) (by conv => lhs; simp) rfl
    · have lt2 : k2 < 2 := by omega
      obtain ⟨dn, dl, hdl, hrow2⟩ : ∃ (n : Int) (l : List Tok), l.length ≤ 16 ∧ rows2[k2]? = some [.int .i64 n, .list 41 (l.map Tok.c)] := by
        rw [hr2]
        rcases (show k2 = 0 ∨ k2 = 1 by omega) with rfl | rfl
        · exact ⟨rn, l0, by omega, rfl⟩
        · exact ⟨n1, l1, by omega, rfl⟩
      have qk2 : (k2 : Int) < 2 := by omega
      have hw2 : IntKind.i64.wrap ((k2 : Int) + 1) = ((k2 + 1 : Nat) : Int) := w64 (by omega) (by omega)
      have hd9 : dl.length ≤ 9000 := by omega
      clear lt2
      repeat' (first | refine ZV ?_ | refine ZB tm specs_ok ?_ | refine ZH (fun hb => ?_) (fun hb => ?_) | refine ZJ (by conv => lhs; simp [qk2, hrow2, m2']) ?_ | refine ZA (fun hb => ?_) (fun hb => ?_))
      refine W.frz 96 rfl (by conv => lhs; simp [frqT, frqV, frqVs, frqL, frq1, frz1]) ?_
      obtain ⟨rows4, hr4⟩ : ∃ R : List (List AV), R = [[AV.int IntKind.u64 id], [AV.int IntKind.u64 id1]] := ⟨_, rfl⟩
      rw [← hr4]
      refine W.loop rfl (ι := { p : Nat × NL ABlk × Nat // p.1 ≤ 2 ∧ lk p.2.1 192 = some (dvB 1 q) ∧ lk p.2.1 272 = some (dvB 1 q1) ∧ lk p.2.1 352 = some (tkN p.2.2 dn dl) })
        (fun p => ⟨257, [(2, .int .u64 id), (3, .int .i64 mode), (4, .list 1 (homes.map iC)), (11, .ptr 192 1 0 0), (15, .int .u64 id1), (16, .ptr 272 1 0 0), (17, .list 1 (fl.map iC)), (21, .ptr 352 p.1.2.2 0 0), (88, .list 2 rows2), (89, .int .i64 2), (90, .int .i64 (k2 : Nat)), (96, .list 1 rows4), (97, .int .i64 2), (98, .int .i64 (p.1.1 : Nat))], p.1.2.1⟩) (fun p => 2 - p.1.1)
        ⟨(0, _, _), by simp, by simp [lk_st, h2], by simp [lk_st, h4], by simp [lk_st, tkN]⟩ (AS.le_of rfl ⟨rfl, rfl, rfl, rfl, rfl, rfl, rfl, rfl, rfl, rfl, rfl, rfl, rfl, rfl, trivial⟩ (fun _ => rfl)) ?_
      clear h2 h4 h
      rintro ⟨⟨k4, h, g21⟩, hk4, h2, h4, h5⟩
      dsimp only at hk4 h2 h4 h5 ⊢
      simp only [dvB, tkN] at h2 h4 h5
      by_cases e4 : k4 = 2
      · subst e4
        repeat' (first | refine ZV ?_ | refine ZB tm specs_ok ?_ | refine ZH (fun hb => ?_) (fun hb => ?_) | refine ZJ (by conv => lhs; simp [h2, h4, m2']) ?_ | refine ZA (fun hb => ?_) (fun hb => ?_))
        refine W.frz 190 rfl (by conv => lhs; simp [frqT, frqV, frqVs, frqL, frq1, frz1, lk_st]) ?_
        obtain ⟨rows8, hr8⟩ : ∃ R : List (List AV), R = [q.cells, q1.cells] := ⟨_, rfl⟩
        rw [← hr8]
        refine W.loop rfl (ι := { p : Nat × NL ABlk // p.1 ≤ 2 ∧ lk p.2 192 = some (dvB 1 q) ∧ lk p.2 272 = some (dvB 1 q1) ∧ lk p.2 352 = some (tkN g21 dn dl) })
          (fun p => ⟨257, [(2, .int .u64 id), (3, .int .i64 mode), (4, .list 1 (homes.map iC)), (11, .ptr 192 1 0 0), (15, .int .u64 id1), (16, .ptr 272 1 0 0), (17, .list 1 (fl.map iC)), (21, .ptr 352 g21 0 0), (88, .list 2 rows2), (89, .int .i64 2), (90, .int .i64 (k2 : Nat)), (190, .list 36 rows8), (191, .int .i64 2), (192, .int .i64 (p.1.1 : Nat))], p.1.2⟩) (fun p => 2 - p.1.1)
          ⟨(0, _), by simp, by simp [lk_st, h2, dvB], by simp [lk_st, h4, dvB], by simp [lk_st, h5, tkN]⟩ (AS.le_of rfl ⟨rfl, rfl, rfl, rfl, rfl, rfl, rfl, rfl, rfl, rfl, rfl, rfl, rfl, rfl, trivial⟩ (fun _ => rfl)) ?_
        clear h2 h4 h5 h
        rintro ⟨⟨k8, h⟩, hk8, h2, h4, h5⟩
        dsimp only at hk8 h2 h4 h5 ⊢
        simp only [tkN] at h5
        by_cases e8 : k8 = 2
        · subst e8
          repeat' (first | refine ZV ?_ | refine ZB tm specs_ok ?_ | refine ZH (fun hb => ?_) (fun hb => ?_) | refine ZJ (by conv => lhs; simp [m2']) ?_ | refine ZA (fun hb => ?_) (fun hb => ?_))
          refine W.frz 220 rfl (by conv => lhs; simp [frqT, frqV, frqVs, frqL, frq1, frz1, lk_st]) ?_
          obtain ⟨rows10, hr10⟩ : ∃ R : List (List AV), R = [[AV.list 1 (List.map iC homes)], [AV.list 1 (List.map iC fl)]] := ⟨_, rfl⟩
          rw [← hr10]
          refine W.loop rfl (ι := { p : Nat × NL ABlk // p.1 ≤ 2 ∧ lk p.2 192 = some (dvB 1 q) ∧ lk p.2 272 = some (dvB 1 q1) ∧ lk p.2 352 = some (tkN g21 dn dl) })
            (fun p => ⟨257, [(2, .int .u64 id), (3, .int .i64 mode), (4, .list 1 (homes.map iC)), (11, .ptr 192 1 0 0), (15, .int .u64 id1), (16, .ptr 272 1 0 0), (17, .list 1 (fl.map iC)), (21, .ptr 352 g21 0 0), (88, .list 2 rows2), (89, .int .i64 2), (90, .int .i64 (k2 : Nat)), (220, .list 1 rows10), (221, .int .i64 2), (222, .int .i64 (p.1.1 : Nat))], p.1.2⟩) (fun p => 2 - p.1.1)
            ⟨(0, _), by simp, by simp [lk_st, h2, dvB], by simp [lk_st, h4, dvB], by simp [lk_st, h5, tkN]⟩ (AS.le_of rfl ⟨rfl, rfl, rfl, rfl, rfl, rfl, rfl, rfl, rfl, rfl, rfl, rfl, rfl, rfl, trivial⟩ (fun _ => rfl)) ?_
          clear h2 h4 h5 h
          rintro ⟨⟨k10, h⟩, hk10, h2, h4, h5⟩
          dsimp only at hk10 h2 h4 h5 ⊢
          simp only [tkN] at h5
          by_cases e10 : k10 = 2
          · subst e10
            repeat' (first | refine ZV ?_ | refine ZB tm specs_ok ?_ | refine ZH (fun hb => ?_) (fun hb => ?_) | refine ZJ (by conv => lhs; simp [hw2]) ?_ | refine ZA (fun hb => ?_) (fun hb => ?_))
            exact ⟨⟨(k2 + 1, _), by dsimp only; omega, by simp [lk_st, h2], by simp [lk_st, h4]⟩, by dsimp only; omega, AS.le_of rfl ⟨rfl, rfl, rfl, rfl, rfl, rfl, rfl, rfl, rfl, rfl, trivial⟩ (fun _ => rfl)⟩
          · have lt10 : k10 < 2 := by omega
            obtain ⟨hl, hhl, hrow10⟩ : ∃ l : List Int, l.length ≤ 20 ∧ rows10[k10]? = some [.list 1 (l.map iC)] := by
              rw [hr10]
              rcases (show k10 = 0 ∨ k10 = 1 by omega) with rfl | rfl
              · exact ⟨homes, hH, rfl⟩
              · exact ⟨fl, by omega, rfl⟩
            have qk10 : (k10 : Int) < 2 := by omega
            have hw10 : IntKind.i64.wrap ((k10 : Int) + 1) = ((k10 + 1 : Nat) : Int) := w64 (by omega) (by omega)
            have cp := unps_eq dn dl hd9 hl (by omega)
            have hpl := unp_len ⟨dn, dl, hd9⟩ hl
            dsimp only at hpl
            unfold unpsR at cp
            generalize unp ⟨dn, dl, hd9⟩ hl = R at *
            obtain ⟨n', l', ms', e'⟩ := R
            dsimp only at hpl cp
            have hl9 : l'.length ≤ 9000 := by omega
            have cm := lmS_eq ms' (by omega)
            simp only [rU] at cp
            clear lt10
            repeat' (first | refine ZV ?_ | refine ZB tm specs_ok ?_ | refine ZH (fun hb => ?_) (fun hb => ?_) | refine ZJ (by conv => lhs; simp [qk10, hrow10, h5, cp, hl9, cs, cm, bneI, hw10]) ?_ | refine ZA (fun hb => ?_) (fun hb => ?_))
            exact ⟨⟨(k10 + 1, _), by dsimp only; omega, by simp [lk_st, h2], by simp [lk_st, h4], by simp [lk_st, h5, tkN]⟩, by dsimp only; omega, AS.le_of rfl ⟨rfl, rfl, rfl, rfl, rfl, rfl, rfl, rfl, rfl, rfl, rfl, rfl, rfl, rfl, trivial⟩ (fun _ => rfl)⟩
        · have lt8 : k8 < 2 := by omega
          obtain ⟨z, hrow8⟩ : ∃ z : Ob, rows8[k8]? = some z.cells := by
            rw [hr8]
            rcases (show k8 = 0 ∨ k8 = 1 by omega) with rfl | rfl
            · exact ⟨q, rfl⟩
            · exact ⟨q1, rfl⟩
          have qk8 : (k8 : Int) < 2 := by omega
          have hw8 : IntKind.i64.wrap ((k8 : Int) + 1) = ((k8 + 1 : Nat) : Int) := w64 (by omega) (by omega)
          have cp := mkeS_eq ⟨dn, dl, hd9⟩ z
          have hpl := mkeL_len ⟨dn, dl, hd9⟩ z
          dsimp only at hpl
          generalize mkeL ⟨dn, dl, hd9⟩ z = R at *
          obtain ⟨n', l', e'⟩ := R
          dsimp only at hpl
          have hl9 : l'.length ≤ 9000 := by omega
          simp only [Tks.v, rT] at cp
          clear lt8
          repeat' (first | refine ZV ?_ | refine ZB tm specs_ok ?_ | refine ZH (fun hb => ?_) (fun hb => ?_) | refine ZJ (by conv => lhs; simp [qk8, hrow8, h5, cp, hl9, cs, bneI, hw8]) ?_ | refine ZA (fun hb => ?_) (fun hb => ?_))
          exact ⟨⟨(k8 + 1, _), by dsimp only; omega, by simp [lk_st, h2], by simp [lk_st, h4], by simp [lk_st, h5, tkN]⟩, by dsimp only; omega, AS.le_of rfl ⟨rfl, rfl, rfl, rfl, rfl, rfl, rfl, rfl, rfl, rfl, rfl, rfl, rfl, rfl, trivial⟩ (fun _ => rfl)⟩
      · have lt4 : k4 < 2 := by omega
        obtain ⟨ii, hrow4⟩ : ∃ (i : Int), rows4[k4]? = some [.int .u64 i] := by
          rw [hr4]
          rcases (show k4 = 0 ∨ k4 = 1 by omega) with rfl | rfl
          · exact ⟨id, rfl⟩
          · exact ⟨id1, rfl⟩
        have qk4 : (k4 : Int) < 2 := by omega
        have hw4 : IntKind.i64.wrap ((k4 : Int) + 1) = ((k4 + 1 : Nat) : Int) := w64 (by omega) (by omega)
        have cp := fun m => pinS_eq ⟨dn, dl, hd9⟩ ii m
        have hpl : ∀ m, (pinL ⟨dn, dl, hd9⟩ ii m).2.1.length ≤ 9000 := fun m => by
          have := pinL_len ⟨dn, dl, hd9⟩ ii m
          dsimp only at this
          omega
        simp only [Tks.v, rT] at cp
        clear lt4
        repeat' (first | refine ZV ?_ | refine ZB tm specs_ok ?_ | refine ZH (fun hb => ?_) (fun hb => ?_) | refine ZJ (by conv => lhs; simp [qk4, hrow4, h2, h4, h5, cp, hpl, cs, bneI, m3']) ?_ | refine ZA (fun hb => ?_) (fun hb => ?_))
        refine W.nrmB 2528 (leafs Try.prog 48) (by simp [lk_st]; rfl) rfl ?_
        have hzO := zN_eq
        simp only [zO] at hzO
        simp only [List.map_cons, List.map_nil, Td.nrmL, hzO]
        refine W.frz 157 rfl (by conv => lhs; simp [frqT, frqV, frqVs, frqL, frq1, frz1, lk_st]) ?_
        obtain ⟨rows6, hr6⟩ : ∃ R : List (List AV), R = [q.cells, q1.cells, zOb.cells] := ⟨_, rfl⟩
        rw [show ([q.cells, q1.cells, zN] : List (List AV)) = rows6 from hr6.symm]
        clear cp hpl hzO
        refine W.loop rfl (ι := { p : Nat × NL ABlk × Int × List Tok × Int × List Tok × Nat × Nat // p.1 ≤ 3 ∧ lk p.2.1 192 = some (dvB 1 q) ∧ lk p.2.1 272 = some (dvB 1 q1) ∧ lk p.2.1 352 = some (tkN g21 dn dl) ∧ lk p.2.1 400 = some (tkN p.2.2.2.2.2.2.1 p.2.2.1 p.2.2.2.1) ∧ lk p.2.1 432 = some (tkN p.2.2.2.2.2.2.2 p.2.2.2.2.1 p.2.2.2.2.2.1) })
          (fun p => ⟨257, [(2, .int .u64 id), (3, .int .i64 mode), (4, .list 1 (homes.map iC)), (11, .ptr 192 1 0 0), (15, .int .u64 id1), (16, .ptr 272 1 0 0), (17, .list 1 (fl.map iC)), (21, .ptr 352 g21 0 0), (23, .int .u64 ii), (24, .ptr 400 p.1.2.2.2.2.2.2.1 0 0), (26, .ptr 432 p.1.2.2.2.2.2.2.2 0 0), (88, .list 2 rows2), (89, .int .i64 2), (90, .int .i64 (k2 : Nat)), (96, .list 1 rows4), (97, .int .i64 2), (98, .int .i64 (k4 : Nat)), (157, .list 36 rows6), (158, .int .i64 3), (159, .int .i64 (p.1.1 : Nat))], p.1.2.1⟩) (fun p => 3 - p.1.1)
          ⟨(0, _, (pinL ⟨dn, dl, hd9⟩ ii mode).1, (pinL ⟨dn, dl, hd9⟩ ii mode).2.1, (pinL ⟨dn, dl, hd9⟩ ii mode).1, (pinL ⟨dn, dl, hd9⟩ ii mode).2.1, ((lk h 400).getD {}).gen + 1, ((lk h 432).getD {}).gen + 1), by simp, by simp [lk_st, h2, dvB], by simp [lk_st, h4, dvB], by simp [lk_st, h5, tkN], by simp [lk_st, tkN], by simp [lk_st, tkN]⟩ (AS.le_of rfl ⟨rfl, rfl, rfl, rfl, rfl, rfl, rfl, rfl, rfl, rfl, rfl, rfl, rfl, rfl, rfl, rfl, rfl, rfl, rfl, rfl, trivial⟩ (fun _ => rfl)) ?_
        clear h2 h4 h5 h
        rintro ⟨⟨k6, h, na, la, nb, lb, ga, gb⟩, hk6, h2, h4, h5, h6, h7⟩
        dsimp only at hk6 h2 h4 h5 h6 h7 ⊢
        simp only [tkN] at h5 h6 h7
        by_cases e6 : k6 = 3
        · subst e6
          repeat' (first | refine ZV ?_ | refine ZB tm specs_ok ?_ | refine ZH (fun hb => ?_) (fun hb => ?_) | refine ZJ (by conv => lhs; simp [hw4]) ?_ | refine ZA (fun hb => ?_) (fun hb => ?_))
          exact ⟨⟨(k4 + 1, _, g21), by dsimp only; omega, by simp [lk_st, h2], by simp [lk_st, h4], by simp [lk_st, h5, tkN]⟩, by dsimp only; omega, AS.le_of rfl ⟨rfl, rfl, rfl, rfl, rfl, rfl, rfl, rfl, rfl, rfl, rfl, rfl, rfl, rfl, trivial⟩ (fun _ => rfl)⟩
        · have lt6 : k6 < 3 := by omega
          obtain ⟨z, hrow6⟩ : ∃ z : Ob, rows6[k6]? = some z.cells := by
            rw [hr6]
            rcases (show k6 = 0 ∨ k6 = 1 ∨ k6 = 2 by omega) with rfl | rfl | rfl
            · exact ⟨q, rfl⟩
            · exact ⟨q1, rfl⟩
            · exact ⟨zOb, rfl⟩
          have qk6 : (k6 : Int) < 3 := by omega
          have hw6 : IntKind.i64.wrap ((k6 : Int) + 1) = ((k6 + 1 : Nat) : Int) := w64 (by omega) (by omega)
          have cp := putoS_eq ⟨dn, dl, hd9⟩ ii z
          have hpl := putoL_len ⟨dn, dl, hd9⟩ ii z
          dsimp only at hpl
          generalize putoL ⟨dn, dl, hd9⟩ ii z = R at *
          obtain ⟨n', l', e'⟩ := R
          dsimp only at hpl
          have hl9 : l'.length ≤ 9000 := by omega
          simp only [Tks.v, rT] at cp
          clear lt6
          repeat' (first | refine ZV ?_ | refine ZB tm specs_ok ?_ | refine ZH (fun hb => ?_) (fun hb => ?_) | refine ZJ (by conv => lhs; simp [qk6, hrow6, h2, h4, h5, h6, h7, cp, hl9, cs, bneI, hw6]) ?_ | refine ZA (fun hb => ?_) (fun hb => ?_))
          exact ⟨⟨(k6 + 1, _, n', l', n', l', ga, gb), by dsimp only; omega, by simp [lk_st, h2], by simp [lk_st, h4], by simp [lk_st, h5, tkN], by simp [lk_st, tkN], by simp [lk_st, tkN]⟩, by dsimp only; omega, AS.le_of rfl ⟨rfl, rfl, rfl, rfl, rfl, rfl, rfl, rfl, rfl, rfl, rfl, rfl, rfl, rfl, rfl, rfl, rfl, rfl, rfl, rfl, trivial⟩ (fun _ => rfl)⟩
  · have hlt : k < l1.length := by omega
    obtain ⟨x, hr⟩ := get_lt hlt
    have hm : (l1.map Tok.c)[k]? = some x.c := by rw [List.getElem?_map, hr]; rfl
    have q1' : (k : Int) < l1.length := by omega
    have q2 : ¬ l1.length ≤ k := by omega
    have hw : IntKind.i64.wrap ((k : Int) + 1) = ((k + 1 : Nat) : Int) := w64 (by omega) (by omega)
    have cD := diceS_eq ds 3
    generalize dn ds 3 = a at *
    generalize dl ds 3 = ds' at *
    have y1 : fl.length ≤ maxLen := by simp only [maxLen]; omega
    have y2 : (fl.length + 1) * 8 ≤ 140737488355328 := by omega
    have y4 : fl.length + 1 ≤ maxLen := by simp only [maxLen]; omega
    obtain ⟨a1, a2, o, a3, a4, a5⟩ := x
    simp only [Tok.c] at hm
    simp only [diceB] at cD
    simp only [diceG] at h5
    clear hlt hk2
    cases a5 with
    | true =>
      rcases hP with ⟨rfl, rfl⟩ | ⟨g, rfl, hb⟩
      · repeat' (first | refine ZV ?_ | refine ZB tm specs_ok ?_ | refine ZH (fun hb => ?_) (fun hb => ?_) | refine ZJ (by conv => lhs; simp [q1', q2, hm, hw, m1, cD, h5]) ?_ | refine ZA (fun hb => ?_) (fun hb => ?_))
        exact ⟨⟨(k + 1, _, .sl 1360 _ 0 1, [a], ds'), by dsimp only; omega, by simp, by simp [lk_st, h1], by simp [lk_st, h2], by simp [lk_st, h3], by simp [lk_st, h4], by simp [lk_st, diceG], .inr ⟨_, rfl, by simp [lk_st, niB, iC]⟩⟩, by dsimp only; omega, AS.le_of rfl ⟨rfl, rfl, rfl, rfl, rfl, rfl, rfl, rfl, rfl, rfl, rfl, rfl, rfl, trivial⟩ (fun _ => rfl)⟩
      · repeat' (first | refine ZV ?_ | refine ZB tm specs_ok ?_ | refine ZH (fun hb => ?_) (fun hb => ?_) | refine ZJ (by conv => lhs; simp [q1', q2, hm, hw, m1, y1, y2, y4, hb, niB, cD, h5]) ?_ | refine ZA (fun hb => ?_) (fun hb => ?_))
        exact ⟨⟨(k + 1, _, .sl 1360 (g + 1) 0 (fl.length + 1), fl ++ [a], ds'), by dsimp only; omega, by simp; omega, by simp [lk_st, h1], by simp [lk_st, h2], by simp [lk_st, h3], by simp [lk_st, h4], by simp [lk_st, diceG], .inr ⟨g + 1, by simp, by simp [lk_st, niB, iC, first_all]⟩⟩, by dsimp only; omega, AS.le_of rfl ⟨rfl, rfl, rfl, rfl, rfl, rfl, rfl, rfl, rfl, rfl, rfl, rfl, rfl, trivial⟩ (fun _ => rfl)⟩
    | false =>
      repeat' (first | refine ZV ?_ | refine ZB tm specs_ok ?_ | refine ZH (fun hb => ?_) (fun hb => ?_) | refine ZJ (by conv => lhs; simp [q1', q2, hm, hw]) ?_ | refine ZA (fun hb => ?_) (fun hb => ?_))
      exact ⟨⟨(k + 1, _, P, fl, ds), by dsimp only; omega, by dsimp only; omega, by simp [lk_st, h1], by simp [lk_st, h2], by simp [lk_st, h3], by simp [lk_st, h4], by simp [lk_st, h5, diceG], by
        rcases hP with ⟨rfl, e⟩ | ⟨g, rfl, hb⟩
        · exact .inl ⟨rfl, e⟩
        · exact .inr ⟨g, rfl, by simp [lk_st, hb]⟩⟩, by dsimp only; omega, AS.le_of rfl ⟨rfl, rfl, rfl, rfl, rfl, rfl, rfl, rfl, rfl, rfl, rfl, rfl, rfl, trivial⟩ (fun _ => rfl)⟩
end Go.Abs.Na
namespace Go.Abs.Na
open Go Go.Proofs Go.Abs
set_option maxRecDepth 100000
set_option maxHeartbeats 4000000
set_option linter.unusedSimpArgs false
set_option linter.unusedVariables false
theorem TyFs.mono_mem {q q' : TypeId → List AV → Prop} : ∀ {ts : List TypeId} {xs : List AV}, (∀ t ∈ ts, ∀ xs, q t xs → q' t xs) → TyFs q ts xs → TyFs q' ts xs
  | [], _, _, h => h
  | t :: ts, _, hq, ⟨a, b, e, h1, h2⟩ => ⟨a, b, e, hq t (by simp) a h1, TyFs.mono_mem (fun t ht => hq t (by simp [ht])) h2⟩
theorem TyR.lower {P : Program} : ∀ {m n : Nat} {t : TypeId} {xs : List AV}, plainT P m t = true → TyR P n t xs → TyR P m t xs
  | 0, _, _, _, hp, _ => by simp [plainT] at hp
  | m + 1, 0, _, _, _, h => h.elim
  | m + 1, n + 1, t, xs, hp, h => by
    rw [TyR] at h ⊢
    rw [plainT] at hp
    split at hp
    · rename_i hu; rw [hu] at h; exact h
    · rename_i hu; rw [hu] at h; exact h
    · rename_i hu; rw [hu] at h; exact h
    · rename_i e hu
      rw [hu] at h
      simp only [Bool.and_eq_true] at hp
      obtain ⟨rows, h1, h2, h3⟩ := h
      exact ⟨rows, h1, h2, fun r hr => TyR.lower hp.2 (h3 r hr)⟩
    · rename_i fs hu
      rw [hu] at h
      simp only [Bool.and_eq_true, List.all_eq_true] at hp
      refine TyFs.mono_mem (fun t ht xs hx => ?_) h
      obtain ⟨f, hf, rfl⟩ := List.mem_map.1 ht
      exact TyR.lower (hp.2 f hf) hx
    · rename_i k e hu
      rw [hu] at h
      simp only [Bool.and_eq_true] at hp
      refine TyFs.mono_mem (fun t ht xs hx => ?_) h
      rw [List.eq_of_mem_replicate ht] at hx ⊢
      exact TyR.lower hp.2 hx
    · cases hp
theorem plOb : plainT Try.prog 8 48 = true := by kernel_rfl
theorem shTok {x : AV} (h : TyV Try.prog 9 69 x) : ∃ r : Raw9 69, x = .agg r.1 := by
  simp only [TyV, Try.underlying69] at h
  obtain ⟨cs, rfl, h⟩ := h
  exact ⟨⟨cs, h⟩, rfl⟩
theorem shOb {x : AV} (h : TyV Try.prog 9 48 x) : ∃ r : Raw 48, x = .agg r.1 := by
  simp only [TyV, Try.underlying48] at h
  obtain ⟨cs, rfl, h⟩ := h
  exact ⟨⟨cs, TyR.lower plOb h⟩, rfl⟩
theorem shInt {x : AV} (h : TyV Try.prog 9 3 x) : ∃ n : Int, x = .int .i64 n := by
  simp only [TyV, TyR, Try.underlying3, List.cons.injEq, and_true] at h
  obtain ⟨m, rfl, hm⟩ := h
  exact ⟨m, rfl⟩
theorem shU64 {x : AV} (h : TyV Try.prog 9 30 x) : ∃ n : Int, (Lit.int .u64 n).wf = true ∧ x = .int .u64 n := by
  simp only [TyV, TyR, Try.underlying30, List.cons.injEq, and_true] at h
  obtain ⟨m, rfl, hm⟩ := h
  exact ⟨m, hm, rfl⟩
theorem rowsInt {k : IntKind} : ∀ {rows : List (List AV)}, (∀ row ∈ rows, ∃ m, row = [AV.int k m] ∧ (Lit.int k m).wf = true) → ∃ L : List Int, (∀ n ∈ L, (Lit.int k n).wf = true) ∧ rows = L.map fun n => [AV.int k n]
  | [], _ => ⟨[], by simp, rfl⟩
  | r :: rs, h => by
    obtain ⟨l, hw, hl⟩ := rowsInt (rows := rs) fun row hr => h row (by simp [hr])
    obtain ⟨m, rfl, hm⟩ := h r (by simp)
    exact ⟨m :: l, by simpa using ⟨hm, hw⟩, by simp [hl]⟩
theorem shInts {x : AV} (h : TyV Try.prog 9 70 x) : ∃ l : List Int, l.length ≤ maxLen ∧ x = .list 1 (l.map iC) := by
  simp only [TyV, TyR, Try.underlying70, Try.underlying3, vc3, List.cons.injEq, and_true] at h
  obtain ⟨rows, rfl, hl, h⟩ := h
  obtain ⟨L, _, rfl⟩ := rowsInt h
  exact ⟨L, by simpa using hl, rfl⟩
theorem shBytes {x : AV} (h : TyV Try.prog 9 22 x) : ∃ l : List UInt8, x = .list 1 (l.map byte) := by
  simp only [TyV, TyR, Try.underlying22, Try.underlying5, vc5, List.cons.injEq, and_true] at h
  obtain ⟨rows, rfl, hl, h⟩ := h
  have : ∀ rows : List (List AV), (∀ row ∈ rows, ∃ m, row = [AV.int .u8 m] ∧ (Lit.int .u8 m).wf = true) → ∃ l : List UInt8, rows = l.map byte := by
    intro rows
    induction rows with
    | nil => exact fun _ => ⟨[], rfl⟩
    | cons r rs ih =>
      intro h
      obtain ⟨l, hl⟩ := ih fun row hr => h row (by simp [hr])
      obtain ⟨m, rfl, hm⟩ := h r (by simp)
      simp only [Lit.wf, Bool.and_eq_true, decide_eq_true_eq] at hm
      have h1 : (0 : Int) ≤ m := hm.1
      have h2 : m ≤ 255 := hm.2
      refine ⟨UInt8.ofNat m.toNat :: l, ?_⟩
      rw [List.map_cons, hl]
      congr 1
      simp only [byte, UInt8.toNat_ofNat', List.cons.injEq, AV.int.injEq, true_and, and_true]
      omega
  obtain ⟨l, rfl⟩ := this rows h
  exact ⟨l, rfl⟩
theorem pins_eq (x : Pin) : mkS encPin (fun _ => (AV.bool true, ([] : List ABlk))) (encPin x) [] = some (.bool true, []) := mkS_eq (enc := encPin) (fun _ _ _ => rfl) x
end Go.Abs.Na
