/- The reference of directories: going on. Conditions: none. -/
import Derived.Test.YtlakgienobmpbaaGreatNz7
import Derived.Test.YtlakgienobmpbaaGreatNz4
namespace Go.Abs.Nz
open Go Go.Proofs Go.Abs
set_option maxRecDepth 100000
set_option maxHeartbeats 4000000
set_option linter.unusedSimpArgs false
set_option linter.unusedVariables false
attribute [local simp] instA slice3A slice3C
attribute [-simp] mkv
attribute [local simp] mkv_hd hdA_cons hdA_ob hdA_ob'
theorem W.cutSB {P : Program} {Q : AS → Prop} {a x y : Code} {fs : List Fr} {σ : AS} {i : Nat} (M : AS → Prop) (h1 : W P Q a (.seq x :: .blk i :: .loop M :: fs) σ) (h2 : ∀ σ', M σ' → W P Q y fs σ') : W P Q a (.seq x :: .blk i :: .seq y :: fs) σ := by
  have key : ∀ e σ, post P Q (.blk i :: .loop M :: fs) e σ → post P Q (.blk i :: .seq y :: fs) e σ := fun e σ h => by
    cases e with
    | normal => exact (h2 σ h).h
    | exit j =>
      have h : (if j = i then post P Q (.loop M :: fs) .normal σ else post P Q (.loop M :: fs) (.exit j) σ) := h
      show (if j = i then post P Q (.seq y :: fs) .normal σ else post P Q (.seq y :: fs) (.exit j) σ)
      split at h
      · rw [if_pos ‹_›]; exact (h2 σ h).h
      · rw [if_neg ‹_›]; exact h
    | _ => exact h
  refine ⟨h1.h.mono fun e σ h => ?_⟩
  cases e with
  | normal => exact WP.mono h fun e σ h => key e σ h
  | exit i => exact key (.exit i) σ h
  | goto i => exact key (.goto i) σ h
  | ret => exact key .ret σ h
  | panic c => exact key (.panic c) σ h
  | outgrown => exact key .outgrown σ h
structure ROn where
  d : Drs
  e : En
  h1 : e.readers.length + e.queue.length ≤ 9000
  h2 : e.waiting.length ≤ 9000
  h3 : Dir.Asc e.readers
  h4 : -1 ≤ e.owner
  h5 : ∀ p ∈ e.queue, 0 ≤ p.1 ∧ (p.2 = 1 ∨ p.2 = 2)
  h6 : AscE d.ents
def rO (n : Int) (l : List En) (ms : List Msg) : AV := .tup [.agg [.int .i64 n, .list 41 (l.map enC)], .list 45 (ms.map Msg.v)]
theorem rO_nrm (n : Int) (l : List En) (ms : List Msg) : nrmR Tryz.prog [71, 55] (rO n l ms) = rO n l ms := by
  simp only [rO, nrmR, nrmL, nrmV, drLeafs, uE, uM, nrmRows_map enC_nrm, nrmRows_map msg_nrm]
noncomputable def ronS : SpecFn := mkS (fun x : ROn => [x.d.v, .agg (enC x.e)]) fun x => (rO x.d.node (putD (Dir.goOn zOb x.e).2 x.d.ents) (goM x.e x.d.node), [])
theorem ronS_eq (x : ROn) : ronS [x.d.v, .agg (enC x.e)] [] = some (rO x.d.node (putD (Dir.goOn zOb x.e).2 x.d.ents) (goM x.e x.d.node), []) :=
  mkS_eq (enc := fun x : ROn => [x.d.v, AV.agg (enC x.e)]) (res := fun x => (rO x.d.node (putD (Dir.goOn zOb x.e).2 x.d.ents) (goM x.e x.d.node), [])) (fun x y h => by
    obtain ⟨a, b, _, _, _, _, _, _⟩ := x
    obtain ⟨a', b', _, _, _, _, _, _⟩ := y
    simp only [List.cons.injEq, AV.agg.injEq, and_true] at h
    cases Drs.v_inj h.1
    cases enC_inj h.2
    rfl) x
structure OnI (e0 : En) (nd : Int) (l : List En) (pd : Bool) where
  e : En
  ms : List Msg
  g : Nat
  X : AV
  Y : AV
  row : List AV
  H : NL ABlk
  id : e.id = e0.id
  h1 : e.readers.length + e.queue.length ≤ 9000
  h2 : e.waiting.length ≤ 9000
  h3 : Dir.Asc e.readers
  h4 : -1 ≤ e.owner
  h5 : ∀ p ∈ e.queue, 0 ≤ p.1 ∧ (p.2 = 1 ∨ p.2 = 2)
  h7 : (pd = true ∨ e.waiting = []) → ms.length + e.queue.length ≤ 9000
  res : (Dir.goOn zOb e0).2 = (Dir.goOn zOb e).2
  msg : goM e0 nd = ms ++ ((if pd then e.waiting.map (revM nd e0.id) else []) ++ goM e nd)
  hn : nrmL Tryz.prog (leafs Tryz.prog 85) row = .int .u64 e.id :: .int .i64 e.owner :: .list 1 (e.readers.map iC) :: (e.obj.cells ++ [X, Y])
  hXY : (X = .list 1 (e.waiting.map iC) ∧ Y = .list 2 (e.queue.map askC)) ∨ (∃ g', X = .sl 1040 g' 0 e.waiting.length ∧ lk H 1040 = some { gen := g', kind := 2, elem := 3, size := 1, inl := true, rows := e.waiting.map iC } ∧ Y = .list 2 (e.queue.map askC)) ∨ (∃ g', Y = .sl 912 g' 0 e.queue.length ∧ lk H 912 = some { gen := g', kind := 2, elem := 119, size := 2, inl := true, rows := e.queue.map askC } ∧ X = .list 1 (e.waiting.map iC))
  b2 : lk H 48 = some { gen := 1, kind := 2, elem := 71, size := 2, inl := false, rows := [[.int .i64 nd, .list 41 (l.map enC)]] }
  b3 : lk H 64 = some { gen := 1, kind := 2, elem := 85, size := 41, inl := false, rows := [row] }
  b4 : lk H 80 = some { gen := 1, kind := 2, elem := 71, size := 2, inl := false, rows := [[.int .i64 0, .nils]] }
  bM : lk H 20000 = some (msgB g ms)
theorem row39 {a b c X Y : AV} (o : Ob) : (a :: b :: c :: (o.cells ++ [X, Y]))[39]? = some X := by simp
theorem row40 {a b c X Y : AV} (o : Ob) : (a :: b :: c :: (o.cells ++ [X, Y]))[40]? = some Y := by simp
theorem rset39 {a b c X Y Z : AV} (o : Ob) : (a :: b :: c :: (o.cells ++ [X, Y])).set 39 Z = a :: b :: c :: (o.cells ++ [Z, Y]) := by simp
theorem rset40 {a b c X Y Z : AV} (o : Ob) : (a :: b :: c :: (o.cells ++ [X, Y])).set 40 Z = a :: b :: c :: (o.cells ++ [X, Z]) := by simp
theorem on_head {e0 : En} {nd : Int} {l : List En} {pd : Bool} {Q : AS → Prop} {c : Code} {fs : List Fr} {ts : NL AV} (x : OnI e0 nd l pd) (hw : ∀ h', lk h' 48 = some { gen := 1, kind := 2, elem := 71, size := 2, inl := false, rows := [[.int .i64 nd, .list 41 (l.map enC)]] } → lk h' 64 = some { gen := 1, kind := 2, elem := 85, size := 41, inl := false, rows := [enC x.e] } → lk h' 80 = some { gen := 1, kind := 2, elem := 71, size := 2, inl := false, rows := [[.int .i64 0, .nils]] } → lk h' 20000 = some (msgB x.g x.ms) → W Tryz.prog Q c fs ⟨106, ts, h'⟩) : W Tryz.prog Q c fs ⟨106, ts, x.H⟩ := by
  obtain ⟨e, ms, g, X, Y, row, H, id, h1, h2, h3, h4, h5, h7, res, msg, hn, hXY, b2, b3, b4, bM⟩ := x
  dsimp only at hw ⊢
  obtain ⟨L, hL⟩ : ∃ L, leafs Tryz.prog 85 = L := ⟨_, rfl⟩
  rw [hL] at hn
  refine W.nrmB 64 L b3 rfl ?_
  dsimp only
  rw [List.map_cons, List.map_nil, hn]
  rcases hXY with ⟨rfl, rfl⟩ | ⟨g', rfl, hb, rfl⟩ | ⟨g', rfl, hb, rfl⟩
  · exact hw _ (by rw [lk_st, if_neg (by decide)]; exact b2) (by rw [lk_st, if_pos rfl]; rfl) (by rw [lk_st, if_neg (by decide)]; exact b4) (by rw [lk_st, if_neg (by decide)]; exact bM)
  · have tk : List.take e.waiting.length (e.waiting.map iC) = e.waiting.map iC := List.take_of_length_le (by simp)
    refine W.frzC 64 0 39 (by rw [lk_st, if_pos rfl]) rfl rfl rfl (row39 _) (by conv => lhs; simp [frqT, frqV, frq1, frz1, AP.run, lk_st, hb, tk]) (by rw [lk_st, if_neg (by decide), lk_st, if_pos rfl]) ?_
    dsimp only
    rw [List.set_cons_zero, rset39]
    exact hw _ (by rw [lk_st, if_neg (by decide), lk_st, if_neg (by decide), lk_st, if_neg (by decide)]; exact b2) (by rw [lk_st, if_pos rfl]; rfl) (by rw [lk_st, if_neg (by decide), lk_st, if_neg (by decide), lk_st, if_neg (by decide)]; exact b4) (by rw [lk_st, if_neg (by decide), lk_st, if_neg (by decide), lk_st, if_neg (by decide)]; exact bM)
  · have tk : List.take e.queue.length (e.queue.map askC) = e.queue.map askC := List.take_of_length_le (by simp)
    refine W.frzC 64 0 40 (by rw [lk_st, if_pos rfl]) rfl rfl rfl (row40 _) (by conv => lhs; simp [frqT, frqV, frq1, frz1, AP.run, lk_st, hb, tk]) (by rw [lk_st, if_neg (by decide), lk_st, if_pos rfl]) ?_
    dsimp only
    rw [List.set_cons_zero, rset40]
    exact hw _ (by rw [lk_st, if_neg (by decide), lk_st, if_neg (by decide), lk_st, if_neg (by decide)]; exact b2) (by rw [lk_st, if_pos rfl]; rfl) (by rw [lk_st, if_neg (by decide), lk_st, if_neg (by decide), lk_st, if_neg (by decide)]; exact b4) (by rw [lk_st, if_neg (by decide), lk_st, if_neg (by decide), lk_st, if_neg (by decide)]; exact bM)
theorem enC_nrm' (e : En) (X Y X' Y' : AV) (hX : nrmV Tryz.prog 82 X = X') (hY : nrmV Tryz.prog 83 Y = Y') : nrmL Tryz.prog (leafs Tryz.prog 85) (.int .u64 e.id :: .int .i64 e.owner :: .list 1 (e.readers.map iC) :: (e.obj.cells ++ [X, Y])) = .int .u64 e.id :: .int .i64 e.owner :: .list 1 (e.readers.map iC) :: (e.obj.cells ++ [X', Y']) := by
  rw [enLeafs]
  simp only [nrmL]
  rw [nrmL_append _ _ _ _ e.obj.len'.symm, e.obj.nrmL]
  have : nrmV Tryz.prog 82 (.list 1 (e.readers.map iC)) = .list 1 (e.readers.map iC) := rc_list _
  simp only [nrmL, hX, hY, this]
  simp only [nrmV]
theorem enC_nrmZ (id ow : Int) (X Y X' Y' : AV) (hX : nrmV Tryz.prog 82 X = X') (hY : nrmV Tryz.prog 83 Y = Y') : nrmL Tryz.prog (leafs Tryz.prog 85) (.int .u64 id :: .int .i64 ow :: .nils :: (zO ++ [X, Y])) = .int .u64 id :: .int .i64 ow :: .list 1 (([] : List Int).map iC) :: (zOb.cells ++ [X', Y']) := by
  rw [enLeafs]
  simp only [nrmL]
  rw [nrmL_append _ _ _ _ (by rw [obLeafs]; rfl), zN_eq]
  have : nrmV Tryz.prog 82 .nils = .list 1 [] := by simp only [nrmV, uI, cI]
  simp only [nrmL, hX, hY, this, zOb, List.map_nil]
  simp only [nrmV]
theorem ra_list (l : List (Int × Int)) : nrmV Tryz.prog 83 (.list 2 (l.map askC)) = .list 2 (l.map askC) := by simp only [nrmV, uA, nrmRows_map askC_nrm]
theorem ra_sl (a b c d : Nat) : nrmV Tryz.prog 83 (.sl a b c d) = .sl a b c d := by simp only [nrmV]
theorem goM_wait {e : En} {nd : Int} (h : e.waiting ≠ []) : goM e nd = [] := by rw [goM, go_wait h]; rfl
noncomputable def ron_specs : NL Spec := [(82, ⟨1, wioS⟩), (118, ⟨1, witS⟩), (119, ⟨1, rptS⟩)]
theorem ron_specs_ok : ∀ p ∈ ron_specs, FnC Tryz.prog p.1 p.2.fn := by
  simp only [ron_specs, List.mem_cons, List.not_mem_nil, or_false]
  rintro p (rfl | rfl | rfl)
  · exact rwio_ok
  · exact rwit_ok
  · exact rpt_ok
attribute [local simp] ron_specs
def onM (e : En) : Nat := 2 * e.queue.length + (if e.waiting = [] then 1 else 0)
theorem ron_ok : FnC Tryz.prog 70 ronS := by
  refine FnC.walkN 70 (fn := Tryz.f70) [71, 55] Tryz.func70 rfl (by kernel_rfl) (fun x => ?_) (fun x => ⟨_, rO_nrm _ _ _⟩)
  obtain ⟨⟨nd, l, hl, he⟩, e0, k1, k2, k3, k4, k5, k6⟩ := x
  change W _ (RetNf _ _ _ (rO nd (putD (Dir.goOn zOb e0).2 l) (goM e0 nd)) []) _ _ ⟨106, [(0, .agg [.int .i64 nd, .list 41 (l.map enC)]), (1, .agg (.int .u64 e0.id :: .int .i64 e0.owner :: .list 1 (e0.readers.map iC) :: (e0.obj.cells ++ [.list 1 (e0.waiting.map iC), .list 2 (e0.queue.map askC)])))], []⟩
  repeat' (first | refine ZV ?_ | refine ZB (id := 0) tm ron_specs_ok ?_ | refine ZB (id := 1) tm ron_specs_ok ?_ | refine ZH (fun hb => ?_) (fun hb => ?_) | refine ZJ (by conv => lhs; simp) ?_ | refine ZA (fun hb => ?_) (fun hb => ?_))
  refine W.phantom (t := 6) 20000 46 45 true (by rfl) (by rfl) (by decide) ?_
  refine W.loop rfl (ι := OnI e0 nd l false) (fun x => ⟨106, [(2, .ptr 48 1 0 0), (3, .ptr 64 1 0 0), (4, .ptr 80 1 0 0), (6, .sl 20000 x.g 0 x.ms.length)], x.H⟩) (fun x => onM x.e)
    ⟨e0, [], 0, .list 1 (e0.waiting.map iC), .list 2 (e0.queue.map askC), enC e0, _, rfl, k1, k2, k3, k4, k5, fun _ => by simp; omega, rfl, by simp, enC_nrm e0, .inl ⟨rfl, rfl⟩, by simp [lk_st, lk], by simp [lk_st, lk], by simp [lk_st, lk], by simp [lk_st, lk, msgB]⟩ (AS.le_of rfl ⟨rfl, rfl, rfl, rfl, trivial⟩ (fun _ => rfl)) ?_
  intro x
  refine on_head x fun h f2 f3 f4 fM => ?_
  obtain ⟨e, ms, g, X, Y, row, H, id, h1, h2, h3, h4, h5, h7, res, msg, hn, hXY, b2, b3, b4, bM⟩ := x
  dsimp only at f3 fM ⊢
  clear hn hXY b2 b3 b4 bM
  have capq : e.queue.length ≤ 9223372036854775807 := by omega
  have capw : e.waiting.length ≤ 9223372036854775807 := by omega
  simp only [enC] at f3
  simp only [Bool.false_eq_true, if_false, List.nil_append, false_or] at msg h7
  have fin : (e.waiting ≠ [] ∨ e.queue = []) → Dir.goOn zOb e = ([], e) := fun h => by
    rcases h with h | h
    · exact go_wait h
    · exact go_nil h
  have cp := rptS_eq ⟨⟨nd, l, hl, he⟩, e⟩
  simp only [Drs.v, enC, putG_putD k6] at cp
  have tkm : List.take ms.length (ms.map Msg.v) = ms.map Msg.v := List.take_of_length_le (by simp)
  have gM := fM
  unfold msgB at gM
  by_cases hw : e.waiting = []
  · by_cases hq : e.queue = []
    · have w0 : ((e.waiting.length : Int) == 0) = true := by simp [hw]
      have w1 : ¬ (0 : Int) < e.queue.length := by simp [hq]
      have w2 : e.queue.length = 0 := by simp [hq]
      have gw := fin (.inr hq)
      rw [gw] at res
      have hmsg : goM e0 nd = ms := by rw [msg, goM, gw]; simp
      rw [res, hmsg]
      dsimp only
      generalize putD e l = L at *
      repeat' (first | refine ZV ?_ | refine ZB tm ron_specs_ok ?_ | refine ZH (fun hb => ?_) (fun hb => ?_) | refine ZJ (by conv => lhs; simp [w0, w1, w2, capw, capq, f2, f3, f4, gM, cp]) ?_ | refine ZA (fun hb => ?_) (fun hb => ?_))
      refine RetNf.dataE rfl (by conv => lhs; simp) (by conv => lhs; simp [frqT, frqV, frqL, frq1, frz1, AP.run, lk_st, gM, tkm]) (by first | rfl | simp [inlT, inlV]) ?_
      exact rO_nrm nd L ms
    · obtain ⟨⟨a, m⟩, q, hq2⟩ : ∃ p q, e.queue = p :: q := List.exists_cons_of_ne_nil hq
      clear hq fin cp
      obtain ⟨id', ow, rd, o, wt, qq⟩ := e
      dsimp only at hw hq2 id h1 h2 h3 h4 h5 h7 f3 capq capw
      subst hw hq2
      have w3 : q.length + 1 ≤ 9223372036854775807 := by simp only [List.length_cons] at h1; omega
      obtain ⟨p0, pm⟩ := h5 (a, m) (by simp)
      dsimp only at p0 pm
      have h5q : ∀ p ∈ q, 0 ≤ p.1 ∧ (p.2 = 1 ∨ p.2 = 2) := fun p hp => h5 p (by simp [hp])
      have h8 := h7 rfl
      clear h7
      simp only [List.length_cons] at h1 h8
      have ha : askC (a, m) = [.int .i64 a, .int .i64 m] := rfl
      simp only [List.map_cons, List.map_nil, ha] at f3
      repeat' (first | refine ZV ?_ | refine ZB (id := 2) tm ron_specs_ok ?_ | refine ZB (id := 3) tm ron_specs_ok ?_ | refine ZH (fun hb => ?_) (fun hb => ?_) | refine ZJ (by conv => lhs; simp [f2, f3, f4, gM, w3]) ?_ | refine ZA (fun hb => ?_) (fun hb => ?_))
      refine W.cutSB (fun σ' => ∃ x : OnI e0 nd l true, onM x.e < onM (⟨id', ow, rd, o, [], (a, m) :: q⟩ : En) ∧ AS.le ⟨106, [(2, .ptr 48 1 0 0), (3, .ptr 64 1 0 0), (4, .ptr 80 1 0 0), (6, .sl 20000 x.g 0 x.ms.length)], x.H⟩ σ') ?_ ?_
      · by_cases ho : ow = -1
        · subst ho
          rcases pm with rfl | rfl
          · have gr := go_read (e := (⟨id', -1, rd, o, [], (a, 1) :: q⟩ : En)) (a := a) (q := q) rfl rfl rfl
            have n1 := Dir.asc_oth h3 a
            have hna : a ∉ Dir.oth rd a := by rw [Dir.mem_oth]; simp
            have cw := witS_eq rd (by omega) a
            rw [wit_ins h3] at cw
            have hIl : (Dir.ins a (Dir.oth rd a)).length ≤ rd.length + 1 := by rw [← wit_ins h3]; exact wit_len a rd
            have hIa := Dir.asc_ins n1 hna
            obtain ⟨ms2, hms2⟩ : ∃ ms2, ms ++ [graM nd id' a 1 o] = ms2 := ⟨_, rfl⟩
            have hl2 : ms2.length = ms.length + 1 := by rw [← hms2]; simp
            rw [gr] at res
            dsimp only at res
            have hmsg : goM e0 nd = ms2 ++ ((([] : List Int).map (revM nd e0.id)) ++ goM (⟨id', -1, Dir.ins a (Dir.oth rd a), o, [], q⟩ : En) nd) := by rw [msg, goM, gr, ← hms2, List.append_assoc]; rfl
            clear gr msg n1 hna
            generalize Dir.ins a (Dir.oth rd a) = N at *
            have y0 : ms.length ≤ 9223372036854775807 := by omega
            have y1 : ms.length ≤ maxLen := by simp only [maxLen]; omega
            have y2 : (ms.length + 1) * 536 ≤ 140737488355328 := by omega
            have y4 : ms.length + 1 ≤ maxLen := by simp only [maxLen]; omega
            have fR : firstRows ms.length (ms.map Msg.v) = ms.map Msg.v := first_all (by simp)
            have hrow : ms.map Msg.v ++ [(graM nd id' a 1 o).v] = ms2.map Msg.v := by rw [← hms2]; simp
            simp only [Msg.v, graM] at hrow
            have z1 : q.length * 16 ≤ 140737488355328 := by omega
            have z2 : q.length ≤ maxLen := by simp only [maxLen]; omega
            have z3 : q.length ≤ 9223372036854775807 := by omega
            have tq : List.take q.length (q.map askC) = q.map askC := List.take_of_length_le (by simp)
            clear hms2
            repeat' (first | refine ZV ?_ | refine ZB tm ron_specs_ok ?_ | refine ZH (fun hb => ?_) (fun hb => ?_) | refine ZJ (by conv => lhs; simp [f2, f3, f4, gM, cw, w3, y0, y1, y2, y4, fR, hrow, m1, z1, z2, z3, tq]) ?_ | refine ZA (fun hb => ?_) (fun hb => ?_))
            exact ⟨⟨⟨id', -1, N, o, [], q⟩, ms2, g + 1, .list 1 [], .sl 912 _ 0 q.length, _, _, id, by simp; omega, by simp, hIa, by simp, h5q, fun _ => by simp; omega, res, hmsg, enC_nrm' (⟨id', -1, N, o, [], q⟩ : En) _ _ _ _ (rc_list []) (ra_sl _ _ _ _), .inr (.inr ⟨_, rfl, by simp [lk_st]; rfl, rfl⟩), by simp [lk_st, f2], by simp [lk_st], by simp [lk_st, f4], by simp [lk_st, msgB]⟩, by simp [onM], AS.le_of rfl ⟨rfl, rfl, rfl, by simp [lk, hl2], trivial⟩ (fun _ => rfl)⟩
          · by_cases hd : Dir.oth rd a = []
            · have gr := go_write (e := (⟨id', -1, rd, o, [], (a, 2) :: q⟩ : En)) (a := a) (m := 2) (q := q) rfl rfl rfl (by decide) hd
              have cw := wioS_eq rd (by omega) a
              rw [hd] at cw
              obtain ⟨ms2, hms2⟩ : ∃ ms2, ms ++ [graM nd id' a 2 o] = ms2 := ⟨_, rfl⟩
              have hl2 : ms2.length = ms.length + 1 := by rw [← hms2]; simp
              rw [gr] at res
              dsimp only at res
              have hmsg : goM e0 nd = ms2 ++ ((([] : List Int).map (revM nd e0.id)) ++ goM (⟨id', a, [], zOb, [], q⟩ : En) nd) := by rw [msg, goM, gr, ← hms2, List.append_assoc]; rfl
              clear gr msg
              have y0 : ms.length ≤ 9223372036854775807 := by omega
              have y1 : ms.length ≤ maxLen := by simp only [maxLen]; omega
              have y2 : (ms.length + 1) * 536 ≤ 140737488355328 := by omega
              have y4 : ms.length + 1 ≤ maxLen := by simp only [maxLen]; omega
              have fR : firstRows ms.length (ms.map Msg.v) = ms.map Msg.v := first_all (by simp)
              have hrow : ms.map Msg.v ++ [(graM nd id' a 2 o).v] = ms2.map Msg.v := by rw [← hms2]; simp
              simp only [Msg.v, graM] at hrow
              have z1 : q.length * 16 ≤ 140737488355328 := by omega
              have z2 : q.length ≤ maxLen := by simp only [maxLen]; omega
              have z3 : q.length ≤ 9223372036854775807 := by omega
              have tq : List.take q.length (q.map askC) = q.map askC := List.take_of_length_le (by simp)
              clear hms2
              repeat' (first | refine ZV ?_ | refine ZB tm ron_specs_ok ?_ | refine ZH (fun hb => ?_) (fun hb => ?_) | refine ZJ (by conv => lhs; simp [f2, f3, f4, gM, cw, w3, y0, y1, y2, y4, fR, hrow, m1, z1, z2, z3, tq]) ?_ | refine ZA (fun hb => ?_) (fun hb => ?_))
              exact ⟨⟨⟨id', a, [], zOb, [], q⟩, ms2, g + 1, .list 1 [], .sl 912 _ 0 q.length, _, _, id, by simp; omega, by simp, List.Pairwise.nil, by dsimp only; omega, h5q, fun _ => by simp; omega, res, hmsg, enC_nrmZ id' a _ _ _ _ (rc_list []) (ra_sl _ _ _ _), .inr (.inr ⟨_, rfl, by simp [lk_st]; rfl, rfl⟩), by simp [lk_st, f2], by simp [lk_st]; rfl, by simp [lk_st, f4], by simp [lk_st, msgB]⟩, by simp [onM], AS.le_of rfl ⟨rfl, rfl, rfl, by simp [lk, hl2], trivial⟩ (fun _ => rfl)⟩
            · have gd := go_dem (e := (⟨id', -1, rd, o, [], (a, 2) :: q⟩ : En)) (a := a) (m := 2) (q := q) rfl rfl rfl (by decide) hd
              have hol : (Dir.oth rd a).length ≤ rd.length := List.length_filter_le _ _
              have hpos : 0 < (Dir.oth rd a).length := List.length_pos_iff.2 hd
              have cw := wioS_eq rd (by omega) a
              rw [gd] at res
              dsimp only at res
              have hmsg : goM e0 nd = ms ++ (((Dir.oth rd a).map (revM nd e0.id)) ++ goM (⟨id', -1, rd, o, Dir.oth rd a, (a, 2) :: q⟩ : En) nd) := by rw [goM_wait (e := (⟨id', -1, rd, o, Dir.oth rd a, (a, 2) :: q⟩ : En)) hd, msg, goM, gd, List.append_nil, ← id, List.map_map]; rfl
              have hres : (Dir.goOn zOb e0).2 = (Dir.goOn zOb (⟨id', -1, rd, o, Dir.oth rd a, (a, 2) :: q⟩ : En)).2 := by rw [res, go_wait hd]
              clear gd res msg
              generalize Dir.oth rd a = N at *
              have p1 : (0 : Int) < N.length := by omega
              have p2 : N.length ≤ 9223372036854775807 := by omega
              repeat' (first | refine ZV ?_ | refine ZB tm ron_specs_ok ?_ | refine ZH (fun hb => ?_) (fun hb => ?_) | refine ZJ (by conv => lhs; simp [f2, f3, f4, gM, cw, p1, p2, hpos]) ?_ | refine ZA (fun hb => ?_) (fun hb => ?_))
              exact ⟨⟨⟨id', -1, rd, o, N, (a, 2) :: q⟩, ms, g, _, _, _, _, id, by simp; omega, by dsimp only; omega, h3, by simp, h5, fun _ => by simp; omega, hres, hmsg, enC_nrm _, .inl ⟨rfl, rfl⟩, by simp [lk_st, f2], by simp [lk_st, ha], by simp [lk_st, f4], by simp [lk_st, fM]⟩, by simp [onM, hd], AS.le_of rfl ⟨rfl, rfl, rfl, rfl, trivial⟩ (fun _ => rfl)⟩
        · have p1 : 0 ≤ ow := by omega
          have gd := go_own (e := (⟨id', ow, rd, o, [], (a, m) :: q⟩ : En)) (a := a) (m := m) (q := q) rfl rfl ho
          have hmsg : goM e0 nd = ms ++ (([ow].map (revM nd e0.id)) ++ goM (⟨id', ow, rd, o, [ow], (a, m) :: q⟩ : En) nd) := by rw [goM_wait (e := (⟨id', ow, rd, o, [ow], (a, m) :: q⟩ : En)) (by simp), msg, goM, gd, List.append_nil, ← id]; rfl
          have hres : (Dir.goOn zOb e0).2 = (Dir.goOn zOb (⟨id', ow, rd, o, [ow], (a, m) :: q⟩ : En)).2 := by rw [res, gd, go_wait (e := (⟨id', ow, rd, o, [ow], (a, m) :: q⟩ : En)) (by simp)]
          clear gd res msg
          repeat' (first | refine ZV ?_ | refine ZB tm ron_specs_ok ?_ | refine ZH (fun hb => ?_) (fun hb => ?_) | refine ZJ (by conv => lhs; simp [f2, f3, f4, gM, p1, m1]) ?_ | refine ZA (fun hb => ?_) (fun hb => ?_))
          exact ⟨⟨⟨id', ow, rd, o, [ow], (a, m) :: q⟩, ms, g, .sl 1040 _ 0 1, .list 2 (((a, m) :: q).map askC), _, _, id, by simp; omega, by simp, h3, h4, h5, fun _ => by simp; omega, hres, hmsg, enC_nrm' (⟨id', ow, rd, o, [ow], (a, m) :: q⟩ : En) _ _ _ _ (rc_sl _ _ _ _) (ra_list _), .inr (.inl ⟨_, rfl, by simp [lk_st, iC]; rfl, rfl⟩), by simp [lk_st, f2], by simp [lk_st, ha], by simp [lk_st, f4], by simp [lk_st, fM]⟩, by simp [onM], AS.le_of rfl ⟨rfl, rfl, rfl, rfl, trivial⟩ (fun _ => rfl)⟩
      · rintro σ' ⟨x, hμ, hle⟩
        refine W.weak hle ?_
        clear hle msg res h1 h2 h3 h4 h5 h5q h8 f2 f3 f4 fM gM tkm capq capw p0 pm w3 ha
        generalize (⟨id', ow, rd, o, [], (a, m) :: q⟩ : En) = eo at *
        refine on_head x fun h f2 f3 f4 fM => ?_
        obtain ⟨e, ms, g, X, Y, row, H, id, h1, h2, h3, h4, h5, h7, res, msg, hn, hXY, b2, b3, b4, bM⟩ := x
        dsimp only at f3 fM hμ ⊢
        clear hn hXY b2 b3 b4 bM
        have h8 := h7 (.inl rfl)
        simp only [if_true] at msg
        have capw : e.waiting.length ≤ 9223372036854775807 := by omega
        simp only [enC] at f3
        repeat' (first | refine ZV ?_ | refine ZB tm ron_specs_ok ?_ | refine ZH (fun hb => ?_) (fun hb => ?_) | refine ZJ (by conv => lhs; simp [f3, capw]) ?_ | refine ZA (fun hb => ?_) (fun hb => ?_))
        refine W.loop rfl (ι := { q : Nat × NL ABlk // q.1 ≤ e.waiting.length ∧ lk q.2 48 = some { gen := 1, kind := 2, elem := 71, size := 2, inl := false, rows := [[.int .i64 nd, .list 41 (l.map enC)]] } ∧ lk q.2 64 = some { gen := 1, kind := 2, elem := 85, size := 41, inl := false, rows := [enC e] } ∧ lk q.2 80 = some { gen := 1, kind := 2, elem := 71, size := 2, inl := false, rows := [[.int .i64 0, .nils]] } ∧ lk q.2 20000 = some (msgB (g + q.1) (ms ++ (e.waiting.take q.1).map (revM nd e0.id))) })
          (fun q => ⟨106, [(2, .ptr 48 1 0 0), (3, .ptr 64 1 0 0), (4, .ptr 80 1 0 0), (6, .sl 20000 (g + q.1.1) 0 (ms.length + q.1.1)), (86, .list 1 (e.waiting.map iC)), (87, .int .i64 e.waiting.length), (88, .int .i64 (q.1.1 : Nat))], q.1.2⟩) (fun q => e.waiting.length - q.1.1)
          ⟨(0, _), by simp, by simp [f2], by simp [f3], by simp [f4], by simp [fM]⟩ (AS.le_of rfl ⟨rfl, rfl, rfl, rfl, rfl, rfl, rfl, trivial⟩ (fun _ => rfl)) ?_
        clear f2 f3 f4 fM
        rintro ⟨⟨k, H⟩, hk, f2, f3, f4, fM⟩
        dsimp only at hk f2 f3 f4 fM ⊢
        by_cases hk2 : k = e.waiting.length
        · subst hk2
          rw [List.take_length] at fM
          repeat' (first | refine ZV ?_ | refine ZB tm ron_specs_ok ?_ | refine ZH (fun hb => ?_) (fun hb => ?_) | refine ZJ (by conv => lhs; simp) ?_ | refine ZA (fun hb => ?_) (fun hb => ?_))
          exact ⟨⟨e, ms ++ e.waiting.map (revM nd e0.id), g + e.waiting.length, .list 1 (e.waiting.map iC), .list 2 (e.queue.map askC), enC e, _, id, h1, h2, h3, h4, h5, fun hw => by
            have : e.waiting = [] := by simpa using hw
            rw [this]
            simpa using h8, res, by rw [msg, List.append_assoc]; rfl, enC_nrm e, .inl ⟨rfl, rfl⟩, by simpa using f2, by simpa using f3, by simpa using f4, by simpa using fM⟩, hμ, AS.le_of rfl ⟨rfl, rfl, rfl, by simp [lk], trivial⟩ (fun _ => rfl)⟩
        · have hlt : k < e.waiting.length := by omega
          obtain ⟨n, hr⟩ := get_lt hlt
          have hm2 : (e.waiting.map iC)[k]? = some [.int .i64 n] := by rw [List.getElem?_map, hr]; rfl
          have q1 : (k : Int) < e.waiting.length := by omega
          have q2 : ¬ e.waiting.length ≤ k := by omega
          have hw : IntKind.i64.wrap ((k : Int) + 1) = ((k + 1 : Nat) : Int) := w64 (by omega) (by omega)
          have ht : (e.waiting.take (k + 1)).map (revM nd e0.id) = (e.waiting.take k).map (revM nd e0.id) ++ [revM nd e0.id n] := by rw [List.take_add_one, hr, Option.toList_some, List.map_append]; rfl
          have hlen : (ms ++ (e.waiting.take k).map (revM nd e0.id)).length = ms.length + k := by simp; omega
          obtain ⟨A, hA⟩ : ∃ A, ms ++ (e.waiting.take k).map (revM nd e0.id) = A := ⟨_, rfl⟩
          have hA2 : ms ++ (e.waiting.take (k + 1)).map (revM nd e0.id) = A ++ [revM nd e0.id n] := by rw [ht, ← hA, List.append_assoc]
          rw [hA] at hlen fM
          obtain ⟨b, hb⟩ : ∃ b, ms.length + k = b := ⟨_, rfl⟩
          rw [hb] at hlen ⊢
          have e1 : ms.length + (k + 1) = b + 1 := by omega
          have y0 : b ≤ 9223372036854775807 := by omega
          have y1 : b ≤ maxLen := by simp only [maxLen]; omega
          have y2 : (b + 1) * 536 ≤ 140737488355328 := by omega
          have y4 : b + 1 ≤ maxLen := by simp only [maxLen]; omega
          have tA : List.take b (A.map Msg.v) = A.map Msg.v := List.take_of_length_le (by simp; omega)
          have gM := fM
          unfold msgB at gM
          have f3' := f3
          simp only [enC] at f3
          clear hlt hk2
          repeat' (first | refine ZV ?_ | refine ZB (id := 14) tm ron_specs_ok ?_ | refine ZB (id := 15) tm ron_specs_ok ?_ | refine ZB (id := 16) tm ron_specs_ok ?_ | refine ZH (fun hb => ?_) (fun hb => ?_) | refine ZJ (by conv => lhs; simp [q1, q2, hm2, f2, f3, f4, gM, y0, y1, y2, y4, m1, tA, hlen]) ?_ | refine ZA (fun hb => ?_) (fun hb => ?_))
          obtain ⟨L, hL⟩ : ∃ L, leafs Tryz.prog 46 = L := ⟨_, rfl⟩
          refine W.nrmB 20000 L (by simp only [lk_st]; rfl) rfl ?_
          repeat' (first | refine ZV ?_ | refine ZB tm ron_specs_ok ?_ | refine ZH (fun hb => ?_) (fun hb => ?_) | refine ZJ (by conv => lhs; simp [hw]) ?_ | refine ZA (fun hb => ?_) (fun hb => ?_))
          have hrow : List.map (nrmL Tryz.prog L) (firstRows b (A.map Msg.v)) ++ [nrmL Tryz.prog L (.int .i64 nd :: .int .i64 n :: .int .i64 3 :: .int .u64 e.id :: .int .i64 0 :: (zO ++ [.int .u64 0, .int .i64 0, .int .u64 0, .int .i64 0]))] = (A ++ [revM nd e0.id n]).map Msg.v := by
            rw [← hL, first_all (by simpa using hlen), msg_nrms, List.map_append, msg_nrm0, id]
            rfl
          exact ⟨⟨(k + 1, _), by dsimp only; omega, by simp [lk_st, f2], by simp [lk_st, f3], by simp [lk_st, f4], by
            dsimp only
            rw [hA2]
            simp only [lk_st, msgB]
            exact congrArg (fun r => some ({ gen := g + (k + 1), kind := 2, elem := 46, size := 45, inl := true, rows := r } : ABlk)) hrow⟩, by dsimp only; omega, AS.le_of rfl ⟨rfl, rfl, rfl, by simp [lk, e1, Nat.add_assoc], rfl, rfl, rfl, trivial⟩ (fun _ => rfl)⟩
  · have w0 : ((e.waiting.length : Int) == 0) = false := by simp [hw]
    have gw := fin (.inl hw)
    rw [gw] at res
    have hmsg : goM e0 nd = ms := by rw [msg, goM, gw]; simp
    rw [res, hmsg]
    dsimp only
    generalize putD e l = L at *
    repeat' (first | refine ZV ?_ | refine ZB tm ron_specs_ok ?_ | refine ZH (fun hb => ?_) (fun hb => ?_) | refine ZJ (by conv => lhs; simp [w0, capw, capq, f2, f3, f4, gM, cp]) ?_ | refine ZA (fun hb => ?_) (fun hb => ?_))
    refine RetNf.dataE rfl (by conv => lhs; simp) (by conv => lhs; simp [frqT, frqV, frqL, frq1, frz1, AP.run, lk_st, gM, tkm]) (by first | rfl | simp [inlT, inlV]) ?_
    exact rO_nrm nd L ms
end Go.Abs.Nz
namespace Go.Abs.Nz
open Go Go.Proofs Go.Abs
set_option maxRecDepth 100000
set_option maxHeartbeats 4000000
set_option linter.unusedSimpArgs false
set_option linter.unusedVariables false
attribute [local simp] instA slice3A slice3C
attribute [-simp] mkv
attribute [local simp] mkv_hd hdA_cons hdA_ob hdA_ob'
noncomputable def rask_specs : NL Spec := [(40, ⟨1, vdS⟩), (68, ⟨1, boS okN⟩), (36, ⟨1, rfnS⟩), (69, ⟨1, hasS⟩), (70, ⟨1, ronS⟩)]
theorem rask_specs_ok : ∀ p ∈ rask_specs, FnC Tryz.prog p.1 p.2.fn := by
  simp only [rask_specs, List.mem_cons, List.not_mem_nil, or_false]
  rintro p (rfl | rfl | rfl | rfl | rfl)
  · exact rvd_ok
  · exact rnode_ok
  · exact rfn_ok
  · exact rhas_ok
  · exact ron_ok
attribute [local simp] rask_specs
theorem rask_ok : FnC Tryz.prog 31 askS := by
  refine FnC.walkN 31 (fn := Tryz.f31) [71, 55, 56] Tryz.func31 rfl (by kernel_rfl) (fun x => ?_) (fun x => ⟨_, rD_nrm _ _ _ _⟩)
  obtain ⟨⟨nd, l, hl, he⟩, id, n, m⟩ := x
  have cv := vdS_eq ⟨nd, l, hl, he⟩
  have c1 := boS_eq okN n
  have ce := rfnS_eq ⟨nd, l, hl, he⟩ id
  simp only [Drs.v] at cv ce
  change W _ (RetNf _ _ _ (rD (askL ⟨nd, l, hl, he⟩ id n m).1 (askL ⟨nd, l, hl, he⟩ id n m).2.1 (askL ⟨nd, l, hl, he⟩ id n m).2.2.1 (askL ⟨nd, l, hl, he⟩ id n m).2.2.2) []) _ _ ⟨87, [(0, .agg [.int .i64 nd, .list 41 (l.map enC)]), (1, .int .u64 id), (2, .int .i64 n), (3, .int .i64 m)], []⟩
  generalize hR : askL ⟨nd, l, hl, he⟩ id n m = R
  unfold askL at hR
  dsimp only at hR
  cases hv : validD nd l with
  | false =>
    rw [if_pos hv] at hR
    subst hR
    rw [hv] at cv
    repeat' (first | refine ZV ?_ | refine ZB tm rask_specs_ok ?_ | refine ZH (fun hb => ?_) (fun hb => ?_) | refine ZJ (by conv => lhs; simp [cv]) ?_ | refine ZA (fun hb => ?_) (fun hb => ?_))
    refine RetNf.dataE rfl (by conv => lhs; simp) (by conv => lhs; simp) (by first | rfl | simp [inlT, inlV]) ?_
    exact rD_nrm0 1
  | true =>
    rw [if_neg (by simp [hv])] at hR
    rw [hv] at cv
    by_cases hz : (id == 0 || (!okN n || !okM m)) = true
    · rw [if_pos hz] at hR
      subst hR
      by_cases h0 : id = 0
      · have g0 : (id == 0) = true := by simp [h0]
        clear hz h0
        repeat' (first | refine ZV ?_ | refine ZB tm rask_specs_ok ?_ | refine ZH (fun hb => ?_) (fun hb => ?_) | refine ZJ (by conv => lhs; simp [cv, g0]) ?_ | refine ZA (fun hb => ?_) (fun hb => ?_))
        refine RetNf.dataE rfl (by conv => lhs; simp) (by conv => lhs; simp) (by first | rfl | simp [inlT, inlV]) ?_
        exact rD_nrm0 2
      · have g0 : (id == 0) = false := by simp [h0]
        cases hn : okN n with
        | false =>
          rw [hn] at c1
          clear hz h0 hn
          repeat' (first | refine ZV ?_ | refine ZB tm rask_specs_ok ?_ | refine ZH (fun hb => ?_) (fun hb => ?_) | refine ZJ (by conv => lhs; simp [cv, g0, c1]) ?_ | refine ZA (fun hb => ?_) (fun hb => ?_))
          refine RetNf.dataE rfl (by conv => lhs; simp) (by conv => lhs; simp) (by first | rfl | simp [inlT, inlV]) ?_
          exact rD_nrm0 2
        | true =>
          rw [hn] at c1
          have g1 : (m != 1) = true := by rw [hn, g0] at hz; simp [okM] at hz; simp [hz.1]
          have g2 : (m != 2) = true := by rw [hn, g0] at hz; simp [okM] at hz; simp [hz.2]
          clear hz h0 hn
          repeat' (first | refine ZV ?_ | refine ZB tm rask_specs_ok ?_ | refine ZH (fun hb => ?_) (fun hb => ?_) | refine ZJ (by conv => lhs; simp [cv, g0, c1, g1, g2]) ?_ | refine ZA (fun hb => ?_) (fun hb => ?_))
          refine RetNf.dataE rfl (by conv => lhs; simp) (by conv => lhs; simp) (by first | rfl | simp [inlT, inlV]) ?_
          exact rD_nrm0 2
    · rw [if_neg hz] at hR
      have g0 : (id == 0) = false := by
        cases h : (id == 0)
        · rfl
        · rw [h] at hz; simp at hz
      have hn : okN n = true := by
        cases h : okN n
        · rw [h] at hz; simp at hz
        · rfl
      have hm : okM m = true := by
        cases h : okM m
        · rw [h] at hz; simp at hz
        · rfl
      have hid : id ≠ 0 := by simpa using g0
      have hm2 : m = 1 ∨ m = 2 := by simpa [okM] using hm
      have n0 := (okN_iff.1 hn).1
      rw [hn] at c1
      obtain ⟨oe, oa, o1, o2⟩ := fndD_ok he hv id
      have hh := fnd_hn hv hid
      have h6 := validD_ascE hv
      generalize fndD id l = e at *
      obtain ⟨id', ow, rd, o, wt, q⟩ := e
      obtain ⟨-, -, o3⟩ := oe
      have hh1 := hh.o1
      have hhq := hh.qu
      dsimp only at oa o1 o2 o3 ce hR hh1 hhq
      have c3 := hasS_eq rd (by omega) n
      obtain ⟨Q, hQ⟩ : ∃ Q, q ++ [(n, m)] = Q := ⟨_, rfl⟩
      have hQl : Q.length = q.length + 1 := by rw [← hQ]; simp
      have hQm : q.map askC ++ [[.int .i64 n, .int .i64 m]] = Q.map askC := by rw [← hQ]; simp [askC]
      have hQ5 : ∀ p ∈ Q, 0 ≤ p.1 ∧ (p.2 = 1 ∨ p.2 = 2) := fun p hp => by
        rw [← hQ] at hp
        rcases List.mem_append.1 hp with hp | hp
        · have := hhq p hp
          exact ⟨(okN_iff.1 this.1).1, by simpa [okM] using this.2⟩
        · simp only [List.mem_singleton] at hp
          subst hp
          exact ⟨n0, hm2⟩
      have cF := ronS_eq ⟨⟨nd, l, hl, he⟩, ⟨id', ow, rd, o, wt, Q⟩, by dsimp only; omega, by dsimp only; omega, oa, hh1, hQ5, h6⟩
      simp only [Drs.v, rO, enC] at cF
      rw [hQ] at hR
      generalize goM ⟨id', ow, rd, o, wt, Q⟩ nd = ms at *
      generalize Dir.goOn zOb ⟨id', ow, rd, o, wt, Q⟩ = G at *
      obtain ⟨m0, e'⟩ := G
      dsimp only at cF hR
      generalize putD e' l = L at *
      have g1 : ((m != 1) && (m != 2)) = false := by rcases hm2 with rfl | rfl <;> rfl
      have y4 : q.length ≤ 9223372036854775807 := by omega
      have y5 : q.length * 16 ≤ 140737488355328 := by omega
      have y1 : q.length ≤ maxLen := by simp only [maxLen]; omega
      have y2 : (q.length + 1) * 16 ≤ 140737488355328 := by omega
      have y3 : q.length + 1 ≤ maxLen := by simp only [maxLen]; omega
      have fq : firstRows q.length (q.map askC) = q.map askC := first_all (by simp)
      have tq : List.take q.length (q.map askC) = q.map askC := List.take_of_length_le (by simp)
      have t4 : List.take (q.length + 1) (Q.map askC) = Q.map askC := List.take_of_length_le (by simp; omega)
      generalize hb3 : decide (n ∈ rd) = b3 at *
      clear hz hh hhq hQ hQ5 oa hm hn he h6 hv
      obtain ⟨B0, hB0⟩ : ∃ B0, (ow == n || (m == 1 && b3)) = B0 := ⟨_, rfl⟩
      have hR2 : (ow == n || (m == 1 && b3 || q.any fun p => p.1 == n)) = (B0 || q.any fun p => p.1 == n) := by rw [← hB0, ← Bool.or_assoc]
      rw [hR2] at hR
      clear hR2
      simp only [enC] at ce
      clear g1
      rcases hm2 with hm1 | hm1
      · have e1 : (m != 1) = false := by simp [hm1]
        have e2 : (m == 1) = true := by simp [hm1]
        have e3 := e1
        clear hm1
        by_cases ho : (ow == n) = true
        · have hBe : true = B0 := by rw [← hB0, ho, e2]; simp
          repeat' (first | refine ZV ?_ | refine ZB (id := 0) tm rask_specs_ok ?_ | refine ZB (id := 1) tm rask_specs_ok ?_ | refine ZB (id := 2) tm rask_specs_ok ?_ | refine ZB (id := 3) tm rask_specs_ok ?_ | refine ZB (id := 4) tm rask_specs_ok ?_ | refine ZB (id := 5) tm rask_specs_ok ?_ | refine ZB (id := 6) tm rask_specs_ok ?_ | refine ZB (id := 7) tm rask_specs_ok ?_ | refine ZH (fun hb => ?_) (fun hb => ?_) | refine ZJ (by conv => lhs; simp [cv, g0, c1, ce, c3, y4, e1, e2, e3, ho]) ?_ | refine ZA (fun hb => ?_) (fun hb => ?_))
          refine W.loop rfl (ι := { x : Nat × Bool × NL ABlk // x.1 ≤ q.length ∧ x.2.1 = (B0 || (q.take x.1).any fun p => p.1 == n) ∧ lk x.2.2 80 = some { gen := 1, kind := 2, elem := 71, size := 2, inl := false, rows := [[.int .i64 nd, .list 41 (l.map enC)]] } ∧ lk x.2.2 144 = some { gen := 1, kind := 2, elem := 71, size := 2, inl := false, rows := [[.int .i64 0, .nils]] } ∧ lk x.2.2 192 = some { gen := 1, kind := 2, elem := 85, size := 41, inl := false, rows := [enC ⟨id', ow, rd, o, wt, q⟩] } })
            (fun x => ⟨87, [(2, .int .i64 n), (3, .int .i64 m), (4, .ptr 80 1 0 0), (8, .ptr 144 1 0 0), (11, .ptr 192 1 0 0), (12, .bool x.1.2.1), (54, .list 2 (q.map askC)), (55, .int .i64 q.length), (56, .int .i64 (x.1.1 : Nat))], x.1.2.2⟩) (fun x => q.length - x.1.1)
            ⟨(0, true, _), by simp, by simp [hBe], by simp [lk, lk_st], by simp [lk, lk_st], by simp [lk, lk_st]⟩ (AS.le_of rfl ⟨rfl, rfl, rfl, rfl, rfl, rfl, rfl, rfl, rfl, trivial⟩ (fun _ => rfl)) ?_
          clear cv ce c1 c3 hBe hB0 e1 e2 e3 ho
          rintro ⟨⟨k, b, H⟩, hk, hb, f4, f8, f11⟩
          dsimp only at hk hb f4 f8 f11 ⊢
          simp only [enC] at f11
          by_cases hk2 : k = q.length
          · subst hk2
            rw [List.take_length] at hb
            rw [← hb] at hR
            cases b with
            | true =>
              rw [if_pos rfl] at hR
              subst hR
              repeat' (first | refine ZV ?_ | refine ZB tm rask_specs_ok ?_ | refine ZH (fun hb => ?_) (fun hb => ?_) | refine ZJ (by conv => lhs; simp [f4, f8, f11]) ?_ | refine ZA (fun hb => ?_) (fun hb => ?_))
              refine RetNf.dataE rfl (by conv => lhs; simp) (by conv => lhs; simp) (by first | rfl | simp [inlT, inlV]) ?_
              exact rD_nrm0 8
            | false =>
              rw [if_neg (by simp)] at hR
              subst hR
              repeat' (first | refine ZV ?_ | refine ZB (id := 8) tm rask_specs_ok ?_ | refine ZB (id := 9) tm rask_specs_ok ?_ | refine ZB (id := 10) tm rask_specs_ok ?_ | refine ZB (id := 11) tm rask_specs_ok ?_ | refine ZB (id := 12) tm rask_specs_ok ?_ | refine ZB (id := 13) tm rask_specs_ok ?_ | refine ZB (id := 14) tm rask_specs_ok ?_ | refine ZH (fun hb => ?_) (fun hb => ?_) | refine ZJ (by conv => lhs; simp [f4, f8, f11, y1, y2, y3, y4, y5, fq, tq, hQm, m1]) ?_ | refine ZA (fun hb => ?_) (fun hb => ?_))
              refine W.frzC 192 0 40 (by rw [lk_st, if_pos rfl]) rfl rfl rfl (row40 _) (by conv => lhs; simp [frqT, frqV, frq1, frz1, AP.run, lk_st, t4, hQl]) (by rw [lk_st, if_neg (by decide), lk_st, if_pos rfl]) ?_
              dsimp only
              rw [List.set_cons_zero, rset40]
              repeat' (first | refine ZV ?_ | refine ZB tm rask_specs_ok ?_ | refine ZH (fun hb => ?_) (fun hb => ?_) | refine ZJ (by conv => lhs; simp [f4, f8, cF]) ?_ | refine ZA (fun hb => ?_) (fun hb => ?_))
              refine RetNf.dataE rfl (by conv => lhs; simp) (by conv => lhs; simp) (by first | rfl | simp [inlT, inlV]) ?_
              exact rD_nrm nd L ms 0
          · have hlt : k < q.length := by omega
            obtain ⟨⟨a1, a2⟩, hr⟩ := get_lt hlt
            have hm : (q.map askC)[k]? = some [.int .i64 a1, .int .i64 a2] := by rw [List.getElem?_map, hr]; rfl
            have q1 : (k : Int) < q.length := by omega
            have q2 : ¬ q.length ≤ k := by omega
            have hw : IntKind.i64.wrap ((k : Int) + 1) = ((k + 1 : Nat) : Int) := w64 (by omega) (by omega)
            have hb2 : (b || a1 == n) = (B0 || (q.take (k + 1)).any fun p => p.1 == n) := by
              rw [List.take_add_one, hr, hb]
              simp [Bool.or_assoc]
            clear hk2 hlt
            cases b with
            | true =>
              repeat' (first | refine ZV ?_ | refine ZB tm rask_specs_ok ?_ | refine ZH (fun hb => ?_) (fun hb => ?_) | refine ZJ (by conv => lhs; simp [q1, q2, hm, hw, f4, f8, f11]) ?_ | refine ZA (fun hb => ?_) (fun hb => ?_))
              exact ⟨⟨(k + 1, true, _), by dsimp only; omega, by rw [← hb2]; rfl, by simp [lk_st, f4], by simp [lk_st, f8], by simp [lk_st, f11]⟩, by dsimp only; omega, AS.le_of rfl ⟨rfl, rfl, rfl, rfl, rfl, rfl, rfl, rfl, rfl, trivial⟩ (fun _ => rfl)⟩
            | false =>
              repeat' (first | refine ZV ?_ | refine ZB tm rask_specs_ok ?_ | refine ZH (fun hb => ?_) (fun hb => ?_) | refine ZJ (by conv => lhs; simp [q1, q2, hm, hw, f4, f8, f11]) ?_ | refine ZA (fun hb => ?_) (fun hb => ?_))
              exact ⟨⟨(k + 1, _, _), by dsimp only; omega, by rw [← hb2]; rfl, by simp [lk_st, f4], by simp [lk_st, f8], by simp [lk_st, f11]⟩, by dsimp only; omega, AS.le_of rfl ⟨rfl, rfl, rfl, rfl, rfl, rfl, rfl, rfl, rfl, trivial⟩ (fun _ => rfl)⟩
        · have ho : (ow == n) = false := by simpa using ho
          have hBe : b3 = B0 := by rw [← hB0, ho, e2]; simp
          repeat' (first | refine ZV ?_ | refine ZB (id := 0) tm rask_specs_ok ?_ | refine ZB (id := 1) tm rask_specs_ok ?_ | refine ZB (id := 2) tm rask_specs_ok ?_ | refine ZB (id := 3) tm rask_specs_ok ?_ | refine ZB (id := 4) tm rask_specs_ok ?_ | refine ZB (id := 5) tm rask_specs_ok ?_ | refine ZB (id := 6) tm rask_specs_ok ?_ | refine ZB (id := 7) tm rask_specs_ok ?_ | refine ZH (fun hb => ?_) (fun hb => ?_) | refine ZJ (by conv => lhs; simp [cv, g0, c1, ce, c3, y4, e1, e2, e3, ho]) ?_ | refine ZA (fun hb => ?_) (fun hb => ?_))
          refine W.loop rfl (ι := { x : Nat × Bool × NL ABlk // x.1 ≤ q.length ∧ x.2.1 = (B0 || (q.take x.1).any fun p => p.1 == n) ∧ lk x.2.2 80 = some { gen := 1, kind := 2, elem := 71, size := 2, inl := false, rows := [[.int .i64 nd, .list 41 (l.map enC)]] } ∧ lk x.2.2 144 = some { gen := 1, kind := 2, elem := 71, size := 2, inl := false, rows := [[.int .i64 0, .nils]] } ∧ lk x.2.2 192 = some { gen := 1, kind := 2, elem := 85, size := 41, inl := false, rows := [enC ⟨id', ow, rd, o, wt, q⟩] } })
            (fun x => ⟨87, [(2, .int .i64 n), (3, .int .i64 m), (4, .ptr 80 1 0 0), (8, .ptr 144 1 0 0), (11, .ptr 192 1 0 0), (12, .bool x.1.2.1), (54, .list 2 (q.map askC)), (55, .int .i64 q.length), (56, .int .i64 (x.1.1 : Nat))], x.1.2.2⟩) (fun x => q.length - x.1.1)
            ⟨(0, b3, _), by simp, by simp [hBe], by simp [lk, lk_st], by simp [lk, lk_st], by simp [lk, lk_st]⟩ (AS.le_of rfl ⟨rfl, rfl, rfl, rfl, rfl, rfl, rfl, rfl, rfl, trivial⟩ (fun _ => rfl)) ?_
          clear cv ce c1 c3 hBe hB0 e1 e2 e3 ho
          rintro ⟨⟨k, b, H⟩, hk, hb, f4, f8, f11⟩
          dsimp only at hk hb f4 f8 f11 ⊢
          simp only [enC] at f11
          by_cases hk2 : k = q.length
          · subst hk2
            rw [List.take_length] at hb
            rw [← hb] at hR
            cases b with
            | true =>
              rw [if_pos rfl] at hR
              subst hR
              repeat' (first | refine ZV ?_ | refine ZB tm rask_specs_ok ?_ | refine ZH (fun hb => ?_) (fun hb => ?_) | refine ZJ (by conv => lhs; simp [f4, f8, f11]) ?_ | refine ZA (fun hb => ?_) (fun hb => ?_))
              refine RetNf.dataE rfl (by conv => lhs; simp) (by conv => lhs; simp) (by first | rfl | simp [inlT, inlV]) ?_
              exact rD_nrm0 8
            | false =>
              rw [if_neg (by simp)] at hR
              subst hR
              repeat' (first | refine ZV ?_ | refine ZB (id := 8) tm rask_specs_ok ?_ | refine ZB (id := 9) tm rask_specs_ok ?_ | refine ZB (id := 10) tm rask_specs_ok ?_ | refine ZB (id := 11) tm rask_specs_ok ?_ | refine ZB (id := 12) tm rask_specs_ok ?_ | refine ZB (id := 13) tm rask_specs_ok ?_ | refine ZB (id := 14) tm rask_specs_ok ?_ | refine ZH (fun hb => ?_) (fun hb => ?_) | refine ZJ (by conv => lhs; simp [f4, f8, f11, y1, y2, y3, y4, y5, fq, tq, hQm, m1]) ?_ | refine ZA (fun hb => ?_) (fun hb => ?_))
              refine W.frzC 192 0 40 (by rw [lk_st, if_pos rfl]) rfl rfl rfl (row40 _) (by conv => lhs; simp [frqT, frqV, frq1, frz1, AP.run, lk_st, t4, hQl]) (by rw [lk_st, if_neg (by decide), lk_st, if_pos rfl]) ?_
              dsimp only
              rw [List.set_cons_zero, rset40]
              repeat' (first | refine ZV ?_ | refine ZB tm rask_specs_ok ?_ | refine ZH (fun hb => ?_) (fun hb => ?_) | refine ZJ (by conv => lhs; simp [f4, f8, cF]) ?_ | refine ZA (fun hb => ?_) (fun hb => ?_))
              refine RetNf.dataE rfl (by conv => lhs; simp) (by conv => lhs; simp) (by first | rfl | simp [inlT, inlV]) ?_
              exact rD_nrm nd L ms 0
          · have hlt : k < q.length := by omega
            obtain ⟨⟨a1, a2⟩, hr⟩ := get_lt hlt
            have hm : (q.map askC)[k]? = some [.int .i64 a1, .int .i64 a2] := by rw [List.getElem?_map, hr]; rfl
            have q1 : (k : Int) < q.length := by omega
            have q2 : ¬ q.length ≤ k := by omega
            have hw : IntKind.i64.wrap ((k : Int) + 1) = ((k + 1 : Nat) : Int) := w64 (by omega) (by omega)
            have hb2 : (b || a1 == n) = (B0 || (q.take (k + 1)).any fun p => p.1 == n) := by
              rw [List.take_add_one, hr, hb]
              simp [Bool.or_assoc]
            clear hk2 hlt
            cases b with
            | true =>
              repeat' (first | refine ZV ?_ | refine ZB tm rask_specs_ok ?_ | refine ZH (fun hb => ?_) (fun hb => ?_) | refine ZJ (by conv => lhs; simp [q1, q2, hm, hw, f4, f8, f11]) ?_ | refine ZA (fun hb => ?_) (fun hb => ?_))
              exact ⟨⟨(k + 1, true, _), by dsimp only; omega, by rw [← hb2]; rfl, by simp [lk_st, f4], by simp [lk_st, f8], by simp [lk_st, f11]⟩, by dsimp only; omega, AS.le_of rfl ⟨rfl, rfl, rfl, rfl, rfl, rfl, rfl, rfl, rfl, trivial⟩ (fun _ => rfl)⟩
            | false =>
              repeat' (first | refine ZV ?_ | refine ZB tm rask_specs_ok ?_ | refine ZH (fun hb => ?_) (fun hb => ?_) | refine ZJ (by conv => lhs; simp [q1, q2, hm, hw, f4, f8, f11]) ?_ | refine ZA (fun hb => ?_) (fun hb => ?_))
              exact ⟨⟨(k + 1, _, _), by dsimp only; omega, by rw [← hb2]; rfl, by simp [lk_st, f4], by simp [lk_st, f8], by simp [lk_st, f11]⟩, by dsimp only; omega, AS.le_of rfl ⟨rfl, rfl, rfl, rfl, rfl, rfl, rfl, rfl, rfl, trivial⟩ (fun _ => rfl)⟩
      · have e1 : (m != 1) = true := by simp [hm1]
        have e2 : (m == 1) = false := by simp [hm1]
        have e3 : (m != 2) = false := by simp [hm1]
        clear hm1
        by_cases ho : (ow == n) = true
        · have hBe : true = B0 := by rw [← hB0, ho, e2]; simp
          repeat' (first | refine ZV ?_ | refine ZB (id := 0) tm rask_specs_ok ?_ | refine ZB (id := 1) tm rask_specs_ok ?_ | refine ZB (id := 2) tm rask_specs_ok ?_ | refine ZB (id := 3) tm rask_specs_ok ?_ | refine ZB (id := 4) tm rask_specs_ok ?_ | refine ZB (id := 5) tm rask_specs_ok ?_ | refine ZB (id := 6) tm rask_specs_ok ?_ | refine ZB (id := 7) tm rask_specs_ok ?_ | refine ZH (fun hb => ?_) (fun hb => ?_) | refine ZJ (by conv => lhs; simp [cv, g0, c1, ce, c3, y4, e1, e2, e3, ho]) ?_ | refine ZA (fun hb => ?_) (fun hb => ?_))
          refine W.loop rfl (ι := { x : Nat × Bool × NL ABlk // x.1 ≤ q.length ∧ x.2.1 = (B0 || (q.take x.1).any fun p => p.1 == n) ∧ lk x.2.2 80 = some { gen := 1, kind := 2, elem := 71, size := 2, inl := false, rows := [[.int .i64 nd, .list 41 (l.map enC)]] } ∧ lk x.2.2 144 = some { gen := 1, kind := 2, elem := 71, size := 2, inl := false, rows := [[.int .i64 0, .nils]] } ∧ lk x.2.2 192 = some { gen := 1, kind := 2, elem := 85, size := 41, inl := false, rows := [enC ⟨id', ow, rd, o, wt, q⟩] } })
            (fun x => ⟨87, [(2, .int .i64 n), (3, .int .i64 m), (4, .ptr 80 1 0 0), (8, .ptr 144 1 0 0), (11, .ptr 192 1 0 0), (12, .bool x.1.2.1), (54, .list 2 (q.map askC)), (55, .int .i64 q.length), (56, .int .i64 (x.1.1 : Nat))], x.1.2.2⟩) (fun x => q.length - x.1.1)
            ⟨(0, true, _), by simp, by simp [hBe], by simp [lk, lk_st], by simp [lk, lk_st], by simp [lk, lk_st]⟩ (AS.le_of rfl ⟨rfl, rfl, rfl, rfl, rfl, rfl, rfl, rfl, rfl, trivial⟩ (fun _ => rfl)) ?_
          clear cv ce c1 c3 hBe hB0 e1 e2 e3 ho
          rintro ⟨⟨k, b, H⟩, hk, hb, f4, f8, f11⟩
          dsimp only at hk hb f4 f8 f11 ⊢
          simp only [enC] at f11
          by_cases hk2 : k = q.length
          · subst hk2
            rw [List.take_length] at hb
            rw [← hb] at hR
            cases b with
            | true =>
              rw [if_pos rfl] at hR
              subst hR
              repeat' (first | refine ZV ?_ | refine ZB tm rask_specs_ok ?_ | refine ZH (fun hb => ?_) (fun hb => ?_) | refine ZJ (by conv => lhs; simp [f4, f8, f11]) ?_ | refine ZA (fun hb => ?_) (fun hb => ?_))
              refine RetNf.dataE rfl (by conv => lhs; simp) (by conv => lhs; simp) (by first | rfl | simp [inlT, inlV]) ?_
              exact rD_nrm0 8
            | false =>
              rw [if_neg (by simp)] at hR
              subst hR
              repeat' (first | refine ZV ?_ | refine ZB (id := 8) tm rask_specs_ok ?_ | refine ZB (id := 9) tm rask_specs_ok ?_ | refine ZB (id := 10) tm rask_specs_ok ?_ | refine ZB (id := 11) tm rask_specs_ok ?_ | refine ZB (id := 12) tm rask_specs_ok ?_ | refine ZB (id := 13) tm rask_specs_ok ?_ | refine ZB (id := 14) tm rask_specs_ok ?_ | refine ZH (fun hb => ?_) (fun hb => ?_) | refine ZJ (by conv => lhs; simp [f4, f8, f11, y1, y2, y3, y4, y5, fq, tq, hQm, m1]) ?_ | refine ZA (fun hb => ?_) (fun hb => ?_))
              refine W.frzC 192 0 40 (by rw [lk_st, if_pos rfl]) rfl rfl rfl (row40 _) (by conv => lhs; simp [frqT, frqV, frq1, frz1, AP.run, lk_st, t4, hQl]) (by rw [lk_st, if_neg (by decide), lk_st, if_pos rfl]) ?_
              dsimp only
              rw [List.set_cons_zero, rset40]
              repeat' (first | refine ZV ?_ | refine ZB tm rask_specs_ok ?_ | refine ZH (fun hb => ?_) (fun hb => ?_) | refine ZJ (by conv => lhs; simp [f4, f8, cF]) ?_ | refine ZA (fun hb => ?_) (fun hb => ?_))
              refine RetNf.dataE rfl (by conv => lhs; simp) (by conv => lhs; simp) (by first | rfl | simp [inlT, inlV]) ?_
              exact rD_nrm nd L ms 0
          · have hlt : k < q.length := by omega
            obtain ⟨⟨a1, a2⟩, hr⟩ := get_lt hlt
            have hm : (q.map askC)[k]? = some [.int .i64 a1, .int .i64 a2] := by rw [List.getElem?_map, hr]; rfl
            have q1 : (k : Int) < q.length := by omega
            have q2 : ¬ q.length ≤ k := by omega
            have hw : IntKind.i64.wrap ((k : Int) + 1) = ((k + 1 : Nat) : Int) := w64 (by omega) (by omega)
            have hb2 : (b || a1 == n) = (B0 || (q.take (k + 1)).any fun p => p.1 == n) := by
              rw [List.take_add_one, hr, hb]
              simp [Bool.or_assoc]
            clear hk2 hlt
            cases b with
            | true =>
              repeat' (first | refine ZV ?_ | refine ZB tm rask_specs_ok ?_ | refine ZH (fun hb => ?_) (fun hb => ?_) | refine ZJ (by conv => lhs; simp [q1, q2, hm, hw, f4, f8, f11]) ?_ | refine ZA (fun hb => ?_) (fun hb => ?_))
              exact ⟨⟨(k + 1, true, _), by dsimp only; omega, by rw [← hb2]; rfl, by simp [lk_st, f4], by simp [lk_st, f8], by simp [lk_st, f11]⟩, by dsimp only; omega, AS.le_of rfl ⟨rfl, rfl, rfl, rfl, rfl, rfl, rfl, rfl, rfl, trivial⟩ (fun _ => rfl)⟩
            | false =>
              repeat' (first | refine ZV ?_ | refine ZB tm rask_specs_ok ?_ | refine ZH (fun hb => ?_) (fun hb => ?_) | refine ZJ (by conv => lhs; simp [q1, q2, hm, hw, f4, f8, f11]) ?_ | refine ZA (fun hb => ?_) (fun hb => ?_))
              exact ⟨⟨(k + 1, _, _), by dsimp only; omega, by rw [← hb2]; rfl, by simp [lk_st, f4], by simp [lk_st, f8], by simp [lk_st, f11]⟩, by dsimp only; omega, AS.le_of rfl ⟨rfl, rfl, rfl, rfl, rfl, rfl, rfl, rfl, rfl, trivial⟩ (fun _ => rfl)⟩
        · have ho : (ow == n) = false := by simpa using ho
          have hBe : false = B0 := by rw [← hB0, ho, e2]; simp
          repeat' (first | refine ZV ?_ | refine ZB (id := 0) tm rask_specs_ok ?_ | refine ZB (id := 1) tm rask_specs_ok ?_ | refine ZB (id := 2) tm rask_specs_ok ?_ | refine ZB (id := 3) tm rask_specs_ok ?_ | refine ZB (id := 4) tm rask_specs_ok ?_ | refine ZB (id := 5) tm rask_specs_ok ?_ | refine ZB (id := 6) tm rask_specs_ok ?_ | refine ZB (id := 7) tm rask_specs_ok ?_ | refine ZH (fun hb => ?_) (fun hb => ?_) | refine ZJ (by conv => lhs; simp [cv, g0, c1, ce, c3, y4, e1, e2, e3, ho]) ?_ | refine ZA (fun hb => ?_) (fun hb => ?_))
          refine W.loop rfl (ι := { x : Nat × Bool × NL ABlk // x.1 ≤ q.length ∧ x.2.1 = (B0 || (q.take x.1).any fun p => p.1 == n) ∧ lk x.2.2 80 = some { gen := 1, kind := 2, elem := 71, size := 2, inl := false, rows := [[.int .i64 nd, .list 41 (l.map enC)]] } ∧ lk x.2.2 144 = some { gen := 1, kind := 2, elem := 71, size := 2, inl := false, rows := [[.int .i64 0, .nils]] } ∧ lk x.2.2 192 = some { gen := 1, kind := 2, elem := 85, size := 41, inl := false, rows := [enC ⟨id', ow, rd, o, wt, q⟩] } })
            (fun x => ⟨87, [(2, .int .i64 n), (3, .int .i64 m), (4, .ptr 80 1 0 0), (8, .ptr 144 1 0 0), (11, .ptr 192 1 0 0), (12, .bool x.1.2.1), (54, .list 2 (q.map askC)), (55, .int .i64 q.length), (56, .int .i64 (x.1.1 : Nat))], x.1.2.2⟩) (fun x => q.length - x.1.1)
            ⟨(0, false, _), by simp, by simp [hBe], by simp [lk, lk_st], by simp [lk, lk_st], by simp [lk, lk_st]⟩ (AS.le_of rfl ⟨rfl, rfl, rfl, rfl, rfl, rfl, rfl, rfl, rfl, trivial⟩ (fun _ => rfl)) ?_
          clear cv ce c1 c3 hBe hB0 e1 e2 e3 ho
          rintro ⟨⟨k, b, H⟩, hk, hb, f4, f8, f11⟩
          dsimp only at hk hb f4 f8 f11 ⊢
          simp only [enC] at f11
          by_cases hk2 : k = q.length
          · subst hk2
            rw [List.take_length] at hb
            rw [← hb] at hR
            cases b with
            | true =>
              rw [if_pos rfl] at hR
              subst hR
              repeat' (first | refine ZV ?_ | refine ZB tm rask_specs_ok ?_ | refine ZH (fun hb => ?_) (fun hb => ?_) | refine ZJ (by conv => lhs; simp [f4, f8, f11]) ?_ | refine ZA (fun hb => ?_) (fun hb => ?_))
              refine RetNf.dataE rfl (by conv => lhs; simp) (by conv => lhs; simp) (by first | rfl | simp [inlT, inlV]) ?_
              exact rD_nrm0 8
            | false =>
              rw [if_neg (by simp)] at hR
              subst hR
              repeat' (first | refine ZV ?_ | refine ZB (id := 8) tm rask_specs_ok ?_ | refine ZB (id := 9) tm rask_specs_ok ?_ | refine ZB (id := 10) tm rask_specs_ok ?_ | refine ZB (id := 11) tm rask_specs_ok ?_ | refine ZB (id := 12) tm rask_specs_ok ?_ | refine ZB (id := 13) tm rask_specs_ok ?_ | refine ZB (id := 14) tm rask_specs_ok ?_ | refine ZH (fun hb => ?_) (fun hb => ?_) | refine ZJ (by conv => lhs; simp [f4, f8, f11, y1, y2, y3, y4, y5, fq, tq, hQm, m1]) ?_ | refine ZA (fun hb => ?_) (fun hb => ?_))
              refine W.frzC 192 0 40 (by rw [lk_st, if_pos rfl]) rfl rfl rfl (row40 _) (by conv => lhs; simp [frqT, frqV, frq1, frz1, AP.run, lk_st, t4, hQl]) (by rw [lk_st, if_neg (by decide), lk_st, if_pos rfl]) ?_
              dsimp only
              rw [List.set_cons_zero, rset40]
              repeat' (first | refine ZV ?_ | refine ZB tm rask_specs_ok ?_ | refine ZH (fun hb => ?_) (fun hb => ?_) | refine ZJ (by conv => lhs; simp [f4, f8, cF]) ?_ | refine ZA (fun hb => ?_) (fun hb => ?_))
              refine RetNf.dataE rfl (by conv => lhs; simp) (by conv => lhs; simp) (by first | rfl | simp [inlT, inlV]) ?_
              exact rD_nrm nd L ms 0
          · have hlt : k < q.length := by omega
            obtain ⟨⟨a1, a2⟩, hr⟩ := get_lt hlt
            have hm : (q.map askC)[k]? = some [.int .i64 a1, .int .i64 a2] := by rw [List.getElem?_map, hr]; rfl
            have q1 : (k : Int) < q.length := by omega
            have q2 : ¬ q.length ≤ k := by omega
            have hw : IntKind.i64.wrap ((k : Int) + 1) = ((k + 1 : Nat) : Int) := w64 (by omega) (by omega)
            have hb2 : (b || a1 == n) = (B0 || (q.take (k + 1)).any fun p => p.1 == n) := by
              rw [List.take_add_one, hr, hb]
              simp [Bool.or_assoc]
            clear hk2 hlt
            cases b with
            | true =>
              repeat' (first | refine ZV ?_ | refine ZB tm rask_specs_ok ?_ | refine ZH (fun hb => ?_) (fun hb => ?_) | refine ZJ (by conv => lhs; simp [q1, q2, hm, hw, f4, f8, f11]) ?_ | refine ZA (fun hb => ?_) (fun hb => ?_))
              exact ⟨⟨(k + 1, true, _), by dsimp only; omega, by rw [← hb2]; rfl, by simp [lk_st, f4], by simp [lk_st, f8], by simp [lk_st, f11]⟩, by dsimp only; omega, AS.le_of rfl ⟨rfl, rfl, rfl, rfl, rfl, rfl, rfl, rfl, rfl, trivial⟩ (fun _ => rfl)⟩
            | false =>
              repeat' (first | refine ZV ?_ | refine ZB tm rask_specs_ok ?_ | refine ZH (fun hb => ?_) (fun hb => ?_) | refine ZJ (by conv => lhs; simp [q1, q2, hm, hw, f4, f8, f11]) ?_ | refine ZA (fun hb => ?_) (fun hb => ?_))
              exact ⟨⟨(k + 1, _, _), by dsimp only; omega, by rw [← hb2]; rfl, by simp [lk_st, f4], by simp [lk_st, f8], by simp [lk_st, f11]⟩, by dsimp only; omega, AS.le_of rfl ⟨rfl, rfl, rfl, rfl, rfl, rfl, rfl, rfl, rfl, trivial⟩ (fun _ => rfl)⟩
end Go.Abs.Nz
namespace Go.Abs.Nz
open Go Go.Proofs Go.Abs
set_option maxRecDepth 100000
set_option maxHeartbeats 4000000
set_option linter.unusedSimpArgs false
set_option linter.unusedVariables false
attribute [local simp] instA slice3A slice3C
attribute [-simp] mkv
attribute [local simp] mkv_hd hdA_cons hdA_ob hdA_ob'
noncomputable def rret_specs : NL Spec := [(40, ⟨1, vdS⟩), (36, ⟨1, rfnS⟩), (69, ⟨1, hasS⟩), (81, ⟨1, zeS⟩), (82, ⟨1, wioS⟩), (70, ⟨1, ronS⟩)]
theorem rret_specs_ok : ∀ p ∈ rret_specs, FnC Tryz.prog p.1 p.2.fn := by
  simp only [rret_specs, List.mem_cons, List.not_mem_nil, or_false]
  rintro p (rfl | rfl | rfl | rfl | rfl | rfl)
  · exact rvd_ok
  · exact rfn_ok
  · exact rhas_ok
  · exact rzero_ok
  · exact rwio_ok
  · exact ron_ok
attribute [local simp] rret_specs
theorem oth_nil (n : Int) : Dir.oth [] n = [] := rfl
theorem rret_ok : FnC Tryz.prog 38 retS := by
  refine FnC.walkN 38 (fn := Tryz.f38) [71, 55, 56] Tryz.func38 rfl (by kernel_rfl) (fun x => ?_) (fun x => ⟨_, rD_nrm _ _ _ _⟩)
  obtain ⟨⟨nd, l, hl, he⟩, id, n, ob⟩ := x
  have cv := vdS_eq ⟨nd, l, hl, he⟩
  have co := zeS_eq ob
  have ce := rfnS_eq ⟨nd, l, hl, he⟩ id
  simp only [Drs.v] at cv ce
  change W _ (RetNf _ _ _ (rD (retL ⟨nd, l, hl, he⟩ id n ob).1 (retL ⟨nd, l, hl, he⟩ id n ob).2.1 (retL ⟨nd, l, hl, he⟩ id n ob).2.2.1 (retL ⟨nd, l, hl, he⟩ id n ob).2.2.2) []) _ _ ⟨75, [(0, .agg [.int .i64 nd, .list 41 (l.map enC)]), (1, .int .u64 id), (2, .int .i64 n), (3, .agg ob.cells)], []⟩
  generalize hR : retL ⟨nd, l, hl, he⟩ id n ob = R
  unfold retL at hR
  dsimp only at hR
  cases hv : validD nd l with
  | false =>
    rw [if_pos hv] at hR
    subst hR
    rw [hv] at cv
    repeat' (first | refine ZV ?_ | refine ZB tm rret_specs_ok ?_ | refine ZH (fun hb => ?_) (fun hb => ?_) | refine ZJ (by conv => lhs; simp [cv]) ?_ | refine ZA (fun hb => ?_) (fun hb => ?_))
    refine RetNf.dataE rfl (by conv => lhs; simp) (by conv => lhs; simp) (by first | rfl | simp [inlT, inlV]) ?_
    exact rD_nrm0 1
  | true =>
    rw [if_neg (by simp [hv])] at hR
    rw [hv] at cv
    by_cases h0 : id = 0
    · have g0 : (id == 0) = true := by simp [h0]
      rw [if_pos (by simp [g0])] at hR
      subst hR
      clear h0
      repeat' (first | refine ZV ?_ | refine ZB tm rret_specs_ok ?_ | refine ZH (fun hb => ?_) (fun hb => ?_) | refine ZJ (by conv => lhs; simp [cv, ce, g0]) ?_ | refine ZA (fun hb => ?_) (fun hb => ?_))
      refine RetNf.dataE rfl (by conv => lhs; simp) (by conv => lhs; simp) (by first | rfl | simp [inlT, inlV]) ?_
      exact rD_nrm0 8
    · have g0 : (id == 0) = false := by simp [h0]
      by_cases hneg : n < 0
      · rw [if_pos (by simp [okN]; omega)] at hR
        subst hR
        clear h0
        repeat' (first | refine ZV ?_ | refine ZB tm rret_specs_ok ?_ | refine ZH (fun hb => ?_) (fun hb => ?_) | refine ZJ (by conv => lhs; simp [cv, ce, g0, hneg]) ?_ | refine ZA (fun hb => ?_) (fun hb => ?_))
        refine RetNf.dataE rfl (by conv => lhs; simp) (by conv => lhs; simp) (by first | rfl | simp [inlT, inlV]) ?_
        exact rD_nrm0 8
      · obtain ⟨oe, oa, o1, o2⟩ := fndD_ok he hv id
        have hh := fnd_hn hv h0
        have h6 := validD_ascE hv
        have g1 : 0 ≤ n := by omega
        have g2 : ¬ n < 0 := by omega
        generalize fndD id l = e at *
        obtain ⟨id', ow, rd, o, wt, q⟩ := e
        obtain ⟨-, -, o3⟩ := oe
        have hh1 := hh.o1
        have hh2 := hh.o2
        have hhq := hh.qu
        have hhw := hh.ow
        have hhr := hh.rd
        dsimp only at oa o1 o2 o3 ce hR hh1 hh2 hhq hhw hhr
        have c3 := hasS_eq rd (by omega) n
        have hq5 : ∀ p ∈ q, 0 ≤ p.1 ∧ (p.2 = 1 ∨ p.2 = 2) := fun p hp => by
          have := hhq p hp
          exact ⟨(okN_iff.1 this.1).1, by simpa [okM] using this.2⟩
        have cw2 := wioS_eq wt (by omega) n
        have l2 : (Dir.oth wt n).length ≤ wt.length := List.length_filter_le _ _
        simp only [enC] at ce
        clear h0 hneg hhq hv hh
        by_cases ho : ow = n
        · have hN : okN n = true := okN_iff.2 ⟨g1, by omega⟩
          have hrd : rd = [] := by
            rcases hhw with h | h
            · omega
            · exact h.1
          subst hrd ho
          have eo : (ow != ow) = false := by simp
          have eo2 : (ow == ow) = true := by simp
          rw [if_neg (by simp [g0, hN])] at hR
          by_cases hz : (oid ob == id || zO? ob) = true
          · rw [if_neg (by simp [hz])] at hR
            unfold retD at hR
            dsimp only at hR
            rw [if_pos rfl] at hR
            have cw1 := wioS_eq [] (by simp) ow
            rw [oth_nil] at cw1
            simp only [List.map_nil] at cw1
            have cF := ronS_eq ⟨⟨nd, l, hl, he⟩, ⟨id', -1, [], ob, Dir.oth wt ow, q⟩, by simp; omega, by dsimp only; omega, List.Pairwise.nil, by dsimp only; omega, hq5, h6⟩
            simp only [Drs.v, rO, enC, List.map_nil] at cF
            generalize goM ⟨id', -1, [], ob, Dir.oth wt ow, q⟩ nd = ms at *
            generalize Dir.goOn zOb ⟨id', -1, [], ob, Dir.oth wt ow, q⟩ = G at *
            obtain ⟨m0, e'⟩ := G
            dsimp only at cF hR
            generalize putD e' l = L at *
            generalize Dir.oth wt ow = wt' at *
            subst hR
            clear hhw hhr hN oa l2 hq5 h6
            generalize hzo : zO? ob = z at *
            cases z with
            | true =>
              repeat' (first | refine ZV ?_ | refine ZB tm rret_specs_ok ?_ | refine ZH (fun hb => ?_) (fun hb => ?_) | refine ZJ (by conv => lhs; simp [cv, g0, ce, co, c3, eo, eo2, g2, cw1, cw2, cF]) ?_ | refine ZA (fun hb => ?_) (fun hb => ?_))
              refine RetNf.dataE rfl (by conv => lhs; simp) (by conv => lhs; simp) (by first | rfl | simp [inlT, inlV]) ?_
              exact rD_nrm nd L ms 0
            | false =>
              have hz2 : (oid ob != id) = false := by simpa using hz
              repeat' (first | refine ZV ?_ | refine ZB tm rret_specs_ok ?_ | refine ZH (fun hb => ?_) (fun hb => ?_) | refine ZJ (by conv => lhs; simp [cv, g0, ce, co, c3, eo, eo2, g2, hz2, cw1, cw2, cF]) ?_ | refine ZA (fun hb => ?_) (fun hb => ?_))
              refine RetNf.dataE rfl (by conv => lhs; simp) (by conv => lhs; simp) (by first | rfl | simp [inlT, inlV]) ?_
              exact rD_nrm nd L ms 0
          · rw [if_pos (by simpa using hz)] at hR
            subst hR
            have hz1 : zO? ob = false := by
              cases h : zO? ob
              · rfl
              · rw [h] at hz; simp at hz
            have hz2 : (oid ob != id) = true := by
              rw [hz1] at hz
              simpa using hz
            rw [hz1] at co
            clear hz hhw hhr hN oa l2 hq5 h6
            repeat' (first | refine ZV ?_ | refine ZB tm rret_specs_ok ?_ | refine ZH (fun hb => ?_) (fun hb => ?_) | refine ZJ (by conv => lhs; simp [cv, g0, ce, co, c3, eo, eo2, g2, hz2]) ?_ | refine ZA (fun hb => ?_) (fun hb => ?_))
            refine RetNf.dataE rfl (by conv => lhs; simp) (by conv => lhs; simp) (by first | rfl | simp [inlT, inlV]) ?_
            exact rD_nrm0 10
        · have eo : (ow != n) = true := by simp [ho]
          have eo2 : (ow == n) = false := by simp [ho]
          by_cases hr : n ∈ rd
          · have hN : okN n = true := (ascN_iff.1 hhr).1 n hr
            rw [if_neg (by simp [g0, hN, hr])] at hR
            rw [if_neg (by simp [eo2])] at hR
            have hd : decide (n ∈ rd) = true := by simp [hr]
            rw [hd] at c3
            unfold retD at hR
            dsimp only at hR
            rw [if_neg ho] at hR
            have cw1 := wioS_eq rd (by omega) n
            have l1 : (Dir.oth rd n).length ≤ rd.length := List.length_filter_le _ _
            have cF := ronS_eq ⟨⟨nd, l, hl, he⟩, ⟨id', ow, Dir.oth rd n, o, Dir.oth wt n, q⟩, by dsimp only; omega, by dsimp only; omega, Dir.asc_oth oa n, hh1, hq5, h6⟩
            simp only [Drs.v, rO, enC] at cF
            generalize goM ⟨id', ow, Dir.oth rd n, o, Dir.oth wt n, q⟩ nd = ms at *
            generalize Dir.goOn zOb ⟨id', ow, Dir.oth rd n, o, Dir.oth wt n, q⟩ = G at *
            obtain ⟨m0, e'⟩ := G
            dsimp only at cF hR
            generalize putD e' l = L at *
            generalize Dir.oth wt n = wt' at *
            generalize Dir.oth rd n = rd' at *
            subst hR
            clear hhw hhr hN oa l1 l2 hq5 h6 hr hd ho
            repeat' (first | refine ZV ?_ | refine ZB tm rret_specs_ok ?_ | refine ZH (fun hb => ?_) (fun hb => ?_) | refine ZJ (by conv => lhs; simp [cv, g0, ce, co, c3, eo, eo2, g2, cw1, cw2, cF]) ?_ | refine ZA (fun hb => ?_) (fun hb => ?_))
            refine RetNf.dataE rfl (by conv => lhs; simp) (by conv => lhs; simp) (by first | rfl | simp [inlT, inlV]) ?_
            exact rD_nrm nd L ms 0
          · rw [if_pos (by simp [eo, hr])] at hR
            subst hR
            have hd : decide (n ∈ rd) = false := by simp [hr]
            rw [hd] at c3
            clear hhw hhr oa l2 hq5 h6 hr hd ho
            repeat' (first | refine ZV ?_ | refine ZB tm rret_specs_ok ?_ | refine ZH (fun hb => ?_) (fun hb => ?_) | refine ZJ (by conv => lhs; simp [cv, g0, ce, c3, eo, eo2, g2]) ?_ | refine ZA (fun hb => ?_) (fun hb => ?_))
            refine RetNf.dataE rfl (by conv => lhs; simp) (by conv => lhs; simp) (by first | rfl | simp [inlT, inlV]) ?_
            exact rD_nrm0 8
end Go.Abs.Nz
namespace Go.Abs.Nz
open Go Go.Proofs Go.Abs
set_option maxRecDepth 100000
set_option maxHeartbeats 4000000
set_option linter.unusedSimpArgs false
set_option linter.unusedVariables false
attribute [local simp] instA
attribute [-simp] mkv
attribute [local simp] mkv_hd hdA_cons hdA_ob hdA_ob'
noncomputable def insS : SpecFn := mkS (fun d : Il => [.list 1 (d.1.map iC), .list 1 (d.1.map iC)]) fun _ => (.bool true, [])
theorem insS_eq (l : List Int) (h : l.length ≤ 9000) : insS [.list 1 (l.map iC), .list 1 (l.map iC)] [] = some (.bool true, []) :=
  mkS_eq (enc := fun d : Il => [AV.list 1 (d.1.map iC), .list 1 (d.1.map iC)]) (fun x y _ => rfl) ⟨l, h⟩
theorem ins_ok : FnC Tryz.prog 71 insS := by
  refine FnC.walk 71 (fn := Tryz.f71) Tryz.func71 rfl (by kernel_rfl) fun d => ?_
  obtain ⟨l, hl⟩ := d
  change W _ (Ret _ _ (.bool true) []) _ _ ⟨26, [(0, .list 1 (l.map iC)), (1, .list 1 (l.map iC))], []⟩
  have cap : l.length ≤ 9223372036854775807 := by omega
  repeat' (first | refine ZV ?_ | refine ZB tm no_specs ?_ | refine ZH (fun hb => ?_) (fun hb => ?_) | refine ZJ (by conv => lhs; simp [cap, bne_self']) ?_ | refine ZA (fun hb => ?_) (fun hb => ?_))
  refine W.loop rfl (ι := { q : Nat × NL ABlk // q.1 ≤ l.length })
    (fun q => ⟨26, [(0, .list 1 (l.map iC)), (1, .list 1 (l.map iC)), (12, .int .i64 l.length), (13, .int .i64 (q.1.1 : Nat))], q.1.2⟩) (fun q => l.length - q.1.1)
    ⟨(0, _), by simp⟩ (AS.le_of rfl ⟨rfl, rfl, rfl, rfl, trivial⟩ (fun _ => rfl)) ?_
  rintro ⟨⟨k, h⟩, hk⟩
  dsimp only at hk ⊢
  by_cases hk2 : k = l.length
  · subst hk2
    repeat' (first | refine ZV ?_ | refine ZB tm no_specs ?_ | refine ZH (fun hb => ?_) (fun hb => ?_) | refine ZJ (by conv => lhs; simp) ?_ | refine ZA (fun hb => ?_) (fun hb => ?_))
    all_goals (first | refine Ret.dataE rfl (by conv => lhs; simp) (by conv => lhs; simp) (by first | rfl | simp [inlT, inlV]) ?_ | refine RetNf.dataE rfl (by conv => lhs; simp) (by conv => lhs; simp) (by first | rfl | simp [inlT, inlV]) ?_)
    all_goals (first | rfl | (simp; done) | (simp_all; done) | (simp_all; omega))
  · have hlt : k < l.length := by omega
    obtain ⟨t, hr⟩ := get_lt hlt
    have hm : (l.map iC)[k]? = some [.int .i64 t] := by rw [List.getElem?_map, hr]; rfl
    have q1 : (k : Int) < l.length := by omega
    have q2 : ¬ l.length ≤ k := by omega
    have hw : IntKind.i64.wrap ((k : Int) + 1) = ((k + 1 : Nat) : Int) := w64 (by omega) (by omega)
    repeat' (first | refine ZV ?_ | refine ZB tm no_specs ?_ | refine ZH (fun hb => ?_) (fun hb => ?_) | refine ZJ (by conv => lhs; simp [q1, q2, hm, hw, bne_self']) ?_ | refine ZA (fun hb => ?_) (fun hb => ?_))
    exact ⟨⟨(k + 1, _), hlt⟩, by dsimp only; omega, AS.le_of rfl ⟨rfl, rfl, rfl, rfl, trivial⟩ (fun _ => rfl)⟩
theorem tgAsk : Tryz.prog.eqGuardType Tryz.prog.depth 119 = false := by kernel_rfl
theorem thAsk : Tryz.prog.stoodInHeld 119 = false := by kernel_rfl
theorem eqAsk (a b : Int) : eqV Tryz.prog 9 119 (.agg [.int .i64 a, .int .i64 b]) (.agg [.int .i64 a, .int .i64 b]) = some true := by
  simp [eqV, Tryz.underlying119, Tryz.underlying3, thAsk, eqFs, partV]
theorem eqlAsk (a b : Int) : eqlA Tryz.prog .neq 119 (.agg [.int .i64 a, .int .i64 b]) (.agg [.int .i64 a, .int .i64 b]) = .ret (.bool false) := by
  simp [eqlA, tgAsk, eqAsk]
noncomputable def senS : SpecFn := mkS (fun d : {e : En // okE e} => [.agg (enC d.1), .agg (enC d.1)]) fun _ => (.bool true, [])
theorem senS_eq (e : En) (h : okE e) : senS [.agg (enC e), .agg (enC e)] [] = some (.bool true, []) :=
  mkS_eq (enc := fun d : {e : En // okE e} => [AV.agg (enC d.1), .agg (enC d.1)]) (fun x y _ => rfl) ⟨e, h⟩
noncomputable def sen_specs : NL Spec := [(71, ⟨1, insS⟩), (53, ⟨1, sobS⟩)]
theorem sen_specs_ok : ∀ p ∈ sen_specs, FnC Tryz.prog p.1 p.2.fn := by
  simp only [sen_specs, List.mem_cons, List.not_mem_nil, or_false]
  rintro p (rfl | rfl)
  · exact ins_ok
  · exact sob_ok
attribute [local simp] sen_specs
theorem sen_ok : FnC Tryz.prog 34 senS := by
  refine FnC.walk 34 (fn := Tryz.f34) Tryz.func34 rfl (by kernel_rfl) fun d => ?_
  obtain ⟨⟨id, ow, rd, o, wt, qu⟩, k1, k2, k3⟩ := d
  dsimp only at k1 k2 k3
  change W _ (Ret _ _ (.bool true) []) _ _ ⟨69, [(0, .agg (.int .u64 id :: .int .i64 ow :: .list 1 (rd.map iC) :: (o.cells ++ [.list 1 (wt.map iC), .list 2 (qu.map askC)]))), (1, .agg (.int .u64 id :: .int .i64 ow :: .list 1 (rd.map iC) :: (o.cells ++ [.list 1 (wt.map iC), .list 2 (qu.map askC)])))], []⟩
  have c1 := insS_eq rd k1
  have c2 := insS_eq wt k2
  have c3 := sobS_eq o
  have cap : qu.length ≤ 9223372036854775807 := by omega
  repeat' (first | refine ZV ?_ | refine ZB tm sen_specs_ok ?_ | refine ZH (fun hb => ?_) (fun hb => ?_) | refine ZJ (by conv => lhs; simp [cap, c1, c2, c3, bne_self']) ?_ | refine ZA (fun hb => ?_) (fun hb => ?_))
  refine W.loop rfl (ι := { q : Nat × NL ABlk // q.1 ≤ qu.length ∧ lk q.2 48 = some { gen := 1, kind := 2, elem := 85, size := 41, inl := false, rows := [enC ⟨id, ow, rd, o, wt, qu⟩] } ∧ lk q.2 64 = some { gen := 1, kind := 2, elem := 85, size := 41, inl := false, rows := [enC ⟨id, ow, rd, o, wt, qu⟩] } })
    (fun q => ⟨69, [(2, .ptr 48 1 0 0), (3, .ptr 64 1 0 0), (53, .int .i64 qu.length), (54, .int .i64 (q.1.1 : Nat))], q.1.2⟩) (fun q => qu.length - q.1.1)
    ⟨(0, _), by simp, by simp [lk, lk_st], by simp [lk, lk_st]⟩ (AS.le_of rfl ⟨rfl, rfl, rfl, rfl, trivial⟩ (fun _ => rfl)) ?_
  clear c1 c2 c3
  rintro ⟨⟨k, h⟩, hk, g1, g2⟩
  dsimp only at hk g1 g2 ⊢
  simp only [enC] at g1 g2
  by_cases hk2 : k = qu.length
  · subst hk2
    repeat' (first | refine ZV ?_ | refine ZB tm sen_specs_ok ?_ | refine ZH (fun hb => ?_) (fun hb => ?_) | refine ZJ (by conv => lhs; simp) ?_ | refine ZA (fun hb => ?_) (fun hb => ?_))
    all_goals (first | refine Ret.dataE rfl (by conv => lhs; simp) (by conv => lhs; simp) (by first | rfl | simp [inlT, inlV]) ?_ | refine RetNf.dataE rfl (by conv => lhs; simp) (by conv => lhs; simp) (by first | rfl | simp [inlT, inlV]) ?_)
    all_goals (first | rfl | (simp; done) | (simp_all; done) | (simp_all; omega))
  · have hlt : k < qu.length := by omega
    obtain ⟨⟨a, m⟩, hr⟩ := get_lt hlt
    have hm : (qu.map askC)[k]? = some [.int .i64 a, .int .i64 m] := by rw [List.getElem?_map, hr]; rfl
    have q1 : (k : Int) < qu.length := by omega
    have q2 : ¬ qu.length ≤ k := by omega
    have hw : IntKind.i64.wrap ((k : Int) + 1) = ((k + 1 : Nat) : Int) := w64 (by omega) (by omega)
    repeat' (first | refine ZV ?_ | refine ZB tm sen_specs_ok ?_ | refine ZH (fun hb => ?_) (fun hb => ?_) | refine ZJ (by conv => lhs; simp [q1, q2, hm, g1, g2, hw, bne_self', eqlAsk]) ?_ | refine ZA (fun hb => ?_) (fun hb => ?_))
    exact ⟨⟨(k + 1, _), hlt, by simp [lk_st, g1], by simp [lk_st, g2]⟩, by dsimp only; omega, AS.le_of rfl ⟨rfl, rfl, rfl, rfl, trivial⟩ (fun _ => rfl)⟩
noncomputable def sdrS : SpecFn := mkS (fun d : Drs => [d.v, d.v]) fun _ => (.bool true, [])
theorem sdrS_eq (d : Drs) : sdrS [d.v, d.v] [] = some (.bool true, []) := mkS_eq (enc := fun d : Drs => [d.v, d.v]) (fun x y _ => rfl) d
noncomputable def sdr_specs : NL Spec := [(34, ⟨1, senS⟩)]
theorem sdr_specs_ok : ∀ p ∈ sdr_specs, FnC Tryz.prog p.1 p.2.fn := by
  simp only [sdr_specs, List.mem_cons, List.not_mem_nil, or_false]
  rintro p rfl
  exact sen_ok
attribute [local simp] sdr_specs
theorem sdr_ok : FnC Tryz.prog 32 sdrS := by
  refine FnC.walk 32 (fn := Tryz.f32) Tryz.func32 rfl (by kernel_rfl) fun d => ?_
  obtain ⟨nd, l, hl, he⟩ := d
  change W _ (Ret _ _ (.bool true) []) _ _ ⟨39, [(0, .agg [.int .i64 nd, .list 41 (l.map enC)]), (1, .agg [.int .i64 nd, .list 41 (l.map enC)])], []⟩
  have cap : l.length ≤ 9223372036854775807 := by omega
  repeat' (first | refine ZV ?_ | refine ZB tm sdr_specs_ok ?_ | refine ZH (fun hb => ?_) (fun hb => ?_) | refine ZJ (by conv => lhs; simp [cap, bne_self']) ?_ | refine ZA (fun hb => ?_) (fun hb => ?_))
  refine W.loop rfl (ι := { q : Nat × NL ABlk // q.1 ≤ l.length ∧ lk q.2 48 = some { gen := 1, kind := 2, elem := 71, size := 2, inl := false, rows := [[.int .i64 nd, .list 41 (l.map enC)]] } ∧ lk q.2 64 = some { gen := 1, kind := 2, elem := 71, size := 2, inl := false, rows := [[.int .i64 nd, .list 41 (l.map enC)]] } })
    (fun q => ⟨39, [(2, .ptr 48 1 0 0), (3, .ptr 64 1 0 0), (22, .int .i64 l.length), (23, .int .i64 (q.1.1 : Nat))], q.1.2⟩) (fun q => l.length - q.1.1)
    ⟨(0, _), by simp, by simp [lk, lk_st], by simp [lk, lk_st]⟩ (AS.le_of rfl ⟨rfl, rfl, rfl, rfl, trivial⟩ (fun _ => rfl)) ?_
  rintro ⟨⟨k, h⟩, hk, g1, g2⟩
  dsimp only at hk g1 g2 ⊢
  by_cases hk2 : k = l.length
  · subst hk2
    repeat' (first | refine ZV ?_ | refine ZB tm sdr_specs_ok ?_ | refine ZH (fun hb => ?_) (fun hb => ?_) | refine ZJ (by conv => lhs; simp) ?_ | refine ZA (fun hb => ?_) (fun hb => ?_))
    all_goals (first | refine Ret.dataE rfl (by conv => lhs; simp) (by conv => lhs; simp) (by first | rfl | simp [inlT, inlV]) ?_ | refine RetNf.dataE rfl (by conv => lhs; simp) (by conv => lhs; simp) (by first | rfl | simp [inlT, inlV]) ?_)
    all_goals (first | rfl | (simp; done) | (simp_all; done) | (simp_all; omega))
  · have hlt : k < l.length := by omega
    obtain ⟨t, hr⟩ := get_lt hlt
    have hm : (l.map enC)[k]? = some (enC t) := by rw [List.getElem?_map, hr]; rfl
    have q1 : (k : Int) < l.length := by omega
    have q2 : ¬ l.length ≤ k := by omega
    have hw : IntKind.i64.wrap ((k : Int) + 1) = ((k + 1 : Nat) : Int) := w64 (by omega) (by omega)
    have co := senS_eq t (he t (List.mem_of_getElem? hr))
    obtain ⟨a1, a2, r, o, w, q⟩ := t
    simp only [enC] at hm co
    repeat' (first | refine ZV ?_ | refine ZB tm sdr_specs_ok ?_ | refine ZH (fun hb => ?_) (fun hb => ?_) | refine ZJ (by conv => lhs; simp [q1, q2, hm, g1, g2, co, hw, bne_self']) ?_ | refine ZA (fun hb => ?_) (fun hb => ?_))
    exact ⟨⟨(k + 1, _), hlt, by simp [lk_st, g1], by simp [lk_st, g2]⟩, by dsimp only; omega, AS.le_of rfl ⟨rfl, rfl, rfl, rfl, trivial⟩ (fun _ => rfl)⟩
noncomputable def dmS : SpecFn := mkS (fun d : {l : List Msg // l.length ≤ 90000} => [.list 45 (d.1.map Msg.v), .list 45 (d.1.map Msg.v)]) fun _ => (.bool true, [])
theorem dmS_eq (l : List Msg) (hl : l.length ≤ 90000) : dmS [.list 45 (l.map Msg.v), .list 45 (l.map Msg.v)] [] = some (.bool true, []) :=
  mkS_eq (enc := fun d : {l : List Msg // l.length ≤ 90000} => [AV.list 45 (d.1.map Msg.v), .list 45 (d.1.map Msg.v)]) (fun x y _ => rfl) ⟨l, hl⟩
noncomputable def dm_specs : NL Spec := [(53, ⟨1, sobS⟩)]
theorem dm_specs_ok : ∀ p ∈ dm_specs, FnC Tryz.prog p.1 p.2.fn := by
  simp only [dm_specs, List.mem_cons, List.not_mem_nil, or_false]
  rintro p rfl
  exact sob_ok
attribute [local simp] dm_specs
theorem dm_ok : FnC Tryz.prog 33 dmS := by
  refine FnC.walk 33 (fn := Tryz.f33) Tryz.func33 rfl (by kernel_rfl) fun d => ?_
  obtain ⟨l, hl⟩ := d
  change W _ (Ret _ _ (.bool true) []) _ _ ⟨94, [(0, .list 45 (l.map Msg.v)), (1, .list 45 (l.map Msg.v))], []⟩
  have cap : l.length ≤ 9223372036854775807 := by omega
  repeat' (first | refine ZV ?_ | refine ZB tm dm_specs_ok ?_ | refine ZH (fun hb => ?_) (fun hb => ?_) | refine ZJ (by conv => lhs; simp [cap, bne_self']) ?_ | refine ZA (fun hb => ?_) (fun hb => ?_))
  refine W.loop rfl (ι := { q : Nat × NL ABlk // q.1 ≤ l.length })
    (fun q => ⟨94, [(1, .list 45 (l.map Msg.v)), (13, .list 45 (l.map Msg.v)), (14, .int .i64 l.length), (15, .int .i64 (q.1.1 : Nat))], q.1.2⟩) (fun q => l.length - q.1.1)
    ⟨(0, _), by simp⟩ (AS.le_of rfl ⟨rfl, rfl, rfl, rfl, trivial⟩ (fun _ => rfl)) ?_
  rintro ⟨⟨k, h⟩, hk⟩
  dsimp only at hk ⊢
  by_cases hk2 : k = l.length
  · subst hk2
    repeat' (first | refine ZV ?_ | refine ZB tm dm_specs_ok ?_ | refine ZH (fun hb => ?_) (fun hb => ?_) | refine ZJ (by conv => lhs; simp) ?_ | refine ZA (fun hb => ?_) (fun hb => ?_))
    all_goals (first | refine Ret.dataE rfl (by conv => lhs; simp) (by conv => lhs; simp) (by first | rfl | simp [inlT, inlV]) ?_ | refine RetNf.dataE rfl (by conv => lhs; simp) (by conv => lhs; simp) (by first | rfl | simp [inlT, inlV]) ?_)
    all_goals (first | rfl | (simp; done) | (simp_all; done) | (simp_all; omega))
  · have hlt : k < l.length := by omega
    obtain ⟨t, hr⟩ := get_lt hlt
    have hm : (l.map Msg.v)[k]? = some t.v := by rw [List.getElem?_map, hr]; rfl
    have q1 : (k : Int) < l.length := by omega
    have q2 : ¬ l.length ≤ k := by omega
    have hw : IntKind.i64.wrap ((k : Int) + 1) = ((k + 1 : Nat) : Int) := w64 (by omega) (by omega)
    have co := sobS_eq t.obj
    obtain ⟨b1, b2, b3, b4, b5, o, b6, b7, b8, b9⟩ := t
    simp only [Msg.v] at hm co
    repeat' (first | refine ZV ?_ | refine ZB tm dm_specs_ok ?_ | refine ZH (fun hb => ?_) (fun hb => ?_) | refine ZJ (by conv => lhs; simp [q1, q2, hm, co, hw, bne_self']) ?_ | refine ZA (fun hb => ?_) (fun hb => ?_))
    exact ⟨⟨(k + 1, _), hlt⟩, by dsimp only; omega, AS.le_of rfl ⟨rfl, rfl, rfl, rfl, trivial⟩ (fun _ => rfl)⟩
end Go.Abs.Nz
namespace Go.Abs.Nz
open Go Go.Proofs Go.Abs
set_option maxRecDepth 100000
set_option maxHeartbeats 4000000
set_option linter.unusedSimpArgs false
set_option linter.unusedVariables false
structure Gd (j : Nat) (nd : Int) (l : List En) : Prop where
  v : validD nd l = true
  len : l.length ≤ j
  qu : ∀ e ∈ l, e.queue.length ≤ j
theorem Gd.mono {i j : Nat} {nd : Int} {l : List En} (h : Gd i nd l) (hij : i ≤ j) : Gd j nd l := ⟨h.v, Nat.le_trans h.len hij, fun e he => Nat.le_trans (h.qu e he) hij⟩
theorem Gd.okE {j : Nat} {nd : Int} {l : List En} (h : Gd j nd l) (hj : j ≤ 7000) : ∀ e ∈ l, okE e := fun e he => by
  obtain ⟨a1, a2⟩ := fineB_asc (validD_fine h.v e he)
  have h1 := asc_len a1
  have h2 := asc_len a2
  have h3 := h.qu e he
  exact ⟨by omega, by omega, by omega⟩
def Gd.drs {j : Nat} {nd : Int} {l : List En} (h : Gd j nd l) (hj : j ≤ 7000) : Drs := ⟨nd, l, by have := h.len; omega, h.okE hj⟩
theorem Gd.nil {nd : Int} (h : okN nd = true) : Gd 0 nd [] := ⟨by rw [validD_yes (fun k hk => absurd hk (by simp))]; exact h, Nat.le_refl _, by simp⟩
theorem goOn_q (q : List (Int × Int)) : ∀ e : En, e.queue = q → (Dir.goOn zOb e).2.queue.length ≤ q.length := by
  induction q with
  | nil =>
    intro e hq
    by_cases hw : e.waiting = []
    · rw [go_nil hq, hq]; exact Nat.le_refl _
    · rw [go_wait hw, hq]; exact Nat.le_refl _
  | cons p q ih =>
    intro e hq
    by_cases hw : e.waiting = []
    · obtain ⟨a, m⟩ := p
      by_cases ho : e.owner = -1
      · by_cases hm : m = 1
        · subst hm
          rw [go_read hw hq ho]
          exact Nat.le_succ_of_le (ih _ rfl)
        · by_cases hd : Dir.oth e.readers a = []
          · rw [go_write hw hq ho hm hd]
            exact Nat.le_succ_of_le (ih _ rfl)
          · rw [go_dem hw hq ho hm hd]
            dsimp only
            rw [hq]
            exact Nat.le_refl _
      · rw [go_own hw hq ho]
        dsimp only
        rw [hq]
        exact Nat.le_refl _
    · rw [go_wait hw, hq]
      exact Nat.le_refl _
theorem put_gd {j : Nat} {nd : Int} {l : List En} {x : En} (h : Gd j nd l) (hx : fineB x = true) (hq : x.queue.length ≤ j + 1) : Gd (j + 1) nd (putD x l) :=
  ⟨put_valid h.v hx, Nat.le_trans (putD_len (validD_ascE h.v)) (by have := h.len; omega), fun e he => by
    rcases mem_put (validD_ascE h.v) he with rfl | he
    · exact hq
    · have := h.qu e he; omega⟩
theorem fnd_q {j : Nat} {nd : Int} {l : List En} (h : Gd j nd l) (id : Int) : (fndD id l).queue.length ≤ j := by
  unfold fndD
  cases hf : l.find? (fun e => e.id == id) with
  | none => exact Nat.zero_le _
  | some e => exact h.qu e (List.mem_of_find?_eq_some hf)
theorem ask_gd {j : Nat} {d : Drs} (h : Gd j d.node d.ents) {id n m : Int} (h0 : (askL d id n m).2.2.2 = 0) : Gd (j + 1) (askL d id n m).1 (askL d id n m).2.1 ∧ ∀ k, k ≠ id → fndD k (askL d id n m).2.1 = fndD k d.ents := by
  generalize hR : askL d id n m = R at *
  unfold askL at hR
  rw [if_neg (by simp [h.v])] at hR
  split at hR
  · subst hR; simp at h0
  · rename_i hz
    dsimp only at hR
    split at hR
    · subst hR; simp at h0
    · subst hR
      dsimp only
      have hid : id ≠ 0 := fun e => hz (by simp [e])
      have hn : okN n = true := by
        cases hh : okN n
        · rw [hh] at hz; simp at hz
        · rfl
      have hm : okM m = true := by
        cases hh : okM m
        · rw [hh] at hz; simp at hz
        · rfl
      have hh := fnd_hn h.v hid
      have hq := fnd_q h id
      have hx : Hn ({ fndD id d.ents with queue := (fndD id d.ents).queue ++ [(n, m)] } : En) := ⟨hh.id, hh.o1, hh.o2, hh.rd, hh.wt, hh.ow, hh.ob, hh.st, fun p hp => by
        rcases List.mem_append.1 hp with hp | hp
        · exact hh.qu p hp
        · simp only [List.mem_singleton] at hp
          subst hp
          exact ⟨hn, hm⟩⟩
      refine ⟨put_gd h (goOn_fine hx) (Nat.le_trans (goOn_q _ _ rfl) (by simp; omega)), fun k hk => fnd_put_ne (validD_ascE h.v) ?_⟩
      rw [goOn_id]
      dsimp only
      rw [fnd_id]
      exact hk
theorem retD_hn {e : En} {n : Int} {o : Ob} (h : Hn e) (hn : okN n = true) (hs : e.owner = n ∨ n ∈ e.readers) (ho : e.owner = n → oid o = e.id ∨ zO? o = true) : Hn (retD e n o) := by
  unfold retD
  have := okN_iff.1 hn
  by_cases hw : e.owner = n
  · rw [if_pos hw]
    have hr : e.readers = [] := by
      rcases h.ow with h1 | h1
      · omega
      · exact h1.1
    refine ⟨h.id, by dsimp only; omega, by dsimp only; omega, h.rd, ascN_oth h.wt n, .inl rfl, ho hw, fun w hw2 => ?_, h.qu⟩
    have h1 := Dir.mem_oth.1 hw2
    rcases h.st w h1.1 with h2 | h2
    · exact absurd (h2.trans hw) h1.2
    · exact .inr h2
  · rw [if_neg hw]
    refine ⟨h.id, h.o1, h.o2, ascN_oth h.rd n, ascN_oth h.wt n, ?_, h.ob, fun w hw2 => ?_, h.qu⟩
    · rcases h.ow with h1 | h1
      · exact .inl h1
      · exact .inr ⟨by dsimp only; rw [h1.1]; rfl, h1.2⟩
    · have h1 := Dir.mem_oth.1 hw2
      rcases h.st w h1.1 with h2 | h2
      · exact .inl h2
      · exact .inr (Dir.mem_oth.2 ⟨h2, h1.2⟩)
theorem retD_id (e : En) (n : Int) (o : Ob) : (retD e n o).id = e.id := by
  unfold retD
  split <;> rfl
theorem retD_q (e : En) (n : Int) (o : Ob) : (retD e n o).queue = e.queue := by
  unfold retD
  split <;> rfl
theorem ret_gd {j : Nat} {d : Drs} (h : Gd j d.node d.ents) {id n : Int} {o : Ob} (h0 : (retL d id n o).2.2.2 = 0) : Gd (j + 1) (retL d id n o).1 (retL d id n o).2.1 ∧ ∀ k, k ≠ id → fndD k (retL d id n o).2.1 = fndD k d.ents := by
  generalize hR : retL d id n o = R at *
  unfold retL at hR
  rw [if_neg (by simp [h.v])] at hR
  dsimp only at hR
  split at hR
  · subst hR; simp at h0
  · rename_i hz
    split at hR
    · subst hR; simp at h0
    · rename_i hz2
      subst hR
      dsimp only
      have hid : id ≠ 0 := fun e => hz (by simp [e])
      have hn : okN n = true := by
        cases hh : okN n
        · rw [hh] at hz; simp at hz
        · rfl
      have hs : (fndD id d.ents).owner = n ∨ n ∈ (fndD id d.ents).readers := by
        simp only [hn, Bool.not_true, Bool.false_or, Bool.or_eq_true, beq_iff_eq, hid, false_or, Bool.and_eq_true, bne_iff_ne, ne_eq, Bool.not_eq_true', decide_eq_false_iff_not, not_and, Classical.not_not] at hz
        exact (Classical.em _).elim .inl (fun h => .inr (hz h))
      have hh := fnd_hn h.v hid
      have hq := fnd_q h id
      have hx := retD_hn (o := o) hh hn hs (fun hw => by
        rw [fnd_id]
        have h3 : ¬ oid o = id → zO? o = true := by simpa [hw] using hz2
        exact (Classical.em _).elim .inl (fun h => .inr (h3 h)))
      refine ⟨put_gd h (goOn_fine hx) (Nat.le_trans (goOn_q _ _ rfl) (by rw [retD_q]; omega)), fun k hk => fnd_put_ne (validD_ascE h.v) ?_⟩
      rw [goOn_id, retD_id, fnd_id]
      exact hk
end Go.Abs.Nz
