/- The entry of an object, with memory of its own. Conditions: none. -/
import Derived.Test.YtbndcamifghfaaaNa4
namespace Go.Abs.Na
open Go Go.Proofs Go.Abs
set_option maxRecDepth 100000
set_option maxHeartbeats 4000000
set_option linter.unusedSimpArgs false
set_option linter.unusedVariables false
attribute [local simp] instA
attribute [-simp] mkv
attribute [local simp] mkv_hd hdA_cons hdA_ob hdA_ob'
def ixnF (p : En → Bool) : Nat → List En → Int
  | _, [] => -1
  | k, x :: r => if p x then (k : Int) else ixnF p (k + 1) r
theorem ixnF_drop {p : En → Bool} {l : List En} {k : Nat} {x : En} (h : l[k]? = some x) : ixnF p k (l.drop k) = if p x then (k : Int) else ixnF p (k + 1) (l.drop (k + 1)) := by
  obtain ⟨hk, rfl⟩ := List.getElem?_eq_some_iff.1 h
  rw [List.drop_eq_getElem_cons hk, ixnF]
theorem ixnF_end {p : En → Bool} {l : List En} : ixnF p l.length (l.drop l.length) = -1 := by rw [List.drop_length]; rfl
/-- A function value, and the block that it holds. -/
structure ixnV where
  F : FuncId
  p : En → Bool
  S : SpecFn
  ok : FnC Try.prog F S
  eq : ∀ x, S [.agg (enC x)] [] = some (.bool (p x), [])
structure ixnW where
  F : FuncId
  ne : (F = 114) = False
  ne2 : (114 = F) = False
  p : En → Bool
  E : Nat
  s : Nat
  row : List AV
  refs : refsL row = []
  ren : ∀ f, renL f row = row
  S : SpecFn
  ok : FnC Try.prog F S
  eq : ∀ x, S [.agg (enC x), .ptr 0 0 0 0] [{ gen := 0, kind := 2, elem := E, size := s, inl := false, rows := [row] }] = some (.bool (p x), [{ gen := 0, kind := 2, elem := E, size := s, inl := false, rows := [row] }])
def ixnW.b (v : ixnW) : ABlk := { gen := 0, kind := 2, elem := v.E, size := v.s, inl := false, rows := [v.row] }
theorem ixnC_inj {l m : List En} (h : l.map enC = m.map enC) : l = m := map_inj' (fun a b h => (enC_inj h)) h
noncomputable def ixn1 (v : ixnW) : SpecFn := mkS2 (fun l : {l : List En // l.length ≤ 9100} => ([.list 41 (l.1.map enC), .fn (.func v.F) [] [.ptr 0 0 0 0]], [v.b])) fun l => (.int .i64 (ixnF v.p 0 l.1), [v.b])
theorem ixn1_eq (v : ixnW) (l : List En) (h : l.length ≤ 9100) : ixn1 v [.list 41 (l.map enC), .fn (.func v.F) [] [.ptr 0 0 0 0]] [v.b] = some (.int .i64 (ixnF v.p 0 l), [v.b]) :=
  mkS2_eq (enc := fun l : {l : List En // l.length ≤ 9100} => ([AV.list 41 (l.1.map enC), .fn (.func v.F) [] [.ptr 0 0 0 0]], [v.b])) (res := fun l => (AV.int .i64 (ixnF v.p 0 l.1), [v.b])) (fun x y h => by
    simp only [Prod.mk.injEq, List.cons.injEq, AV.list.injEq, true_and, and_true] at h
    rw [ixnC_inj h]) ⟨l, h⟩
theorem ixn1_ok (v : ixnW) : FnC Try.prog 114 (ixn1 v) := by
  obtain ⟨G, ne, ne2, p, E, s, row, rf, rn, S, ok, eq⟩ := v
  have sp : ∀ q ∈ ([(G, ⟨3, S⟩)] : NL Spec), FnC Try.prog q.1 q.2.fn := by
    simp only [List.mem_cons, List.not_mem_nil, or_false]
    rintro q rfl
    exact ok
  refine FnC.walkB 114 (fn := Try.f114) Try.func114 rfl (by kernel_rfl) (fun x b hb => by simp at hb; rw [hb]; rfl) fun x => ?_
  obtain ⟨l, hl⟩ := x
  obtain ⟨b, hB⟩ : ∃ b : ABlk, b = { gen := 0, kind := 2, elem := E, size := s, inl := false, rows := [row] } := ⟨_, rfl⟩
  change W _ (RetB _ _ 1 (.int .i64 (ixnF p 0 l)) [{ gen := 0, kind := 2, elem := E, size := s, inl := false, rows := [row] }]) _ _ ⟨19, [(0, .list 41 (l.map enC)), (1, .fn (.func G) [] [.ptr 0 0 0 0])], [(0, { gen := 0, kind := 2, elem := E, size := s, inl := false, rows := [row] })]⟩
  have cap : l.length ≤ 9223372036854775807 := by omega
  repeat' (first | refine ZV ?_ | refine ZB tm sp ?_ | refine ZH (fun hb => ?_) (fun hb => ?_) | refine ZJ (by conv => lhs; simp [cap]) ?_ | refine ZA (fun hb => ?_) (fun hb => ?_))
  refine W.loop rfl (ι := { q : Nat × NL ABlk // q.1 ≤ l.length ∧ ixnF p 0 l = ixnF p q.1 (l.drop q.1) ∧ lk q.2 0 = some { gen := 0, kind := 2, elem := E, size := s, inl := false, rows := [row] } })
    (fun q => ⟨19, [(0, .list 41 (l.map enC)), (1, .fn (.func G) [] [.ptr 0 0 0 0]), (7, .int .i64 l.length), (8, .int .i64 (q.1.1 : Nat))], q.1.2⟩) (fun q => l.length - q.1.1)
    ⟨(0, _), by simp, rfl, rfl⟩ (AS.le_of rfl ⟨rfl, rfl, rfl, rfl, trivial⟩ (fun _ => rfl)) ?_
  rintro ⟨⟨k, h⟩, hk, hf, h1⟩
  dsimp only at hk hf h1 ⊢
  by_cases hk2 : k = l.length
  · subst hk2
    rw [ixnF_end] at hf
    rw [hf]
    repeat' (first | refine ZV ?_ | refine ZB tm sp ?_ | refine ZH (fun hb => ?_) (fun hb => ?_) | refine ZJ (by conv => lhs; simp) ?_ | refine ZA (fun hb => ?_) (fun hb => ?_))
    exact RetB.raw [0] rfl (by conv => lhs; simp) (by decide) (by simp [h1]) (by simp [h1, rn]) (by simp)
  · have hlt : k < l.length := by omega
    obtain ⟨m, hr⟩ := get_lt hlt
    have hm : (l.map enC)[k]? = some (enC m) := by rw [List.getElem?_map, hr]; rfl
    have q1 : (k : Int) < l.length := by omega
    have q2 : ¬ l.length ≤ k := by omega
    have hw : IntKind.i64.wrap ((k : Int) + 1) = ((k + 1 : Nat) : Int) := w64 (by omega) (by omega)
    rw [ixnF_drop hr] at hf
    have cf := eq m
    clear hlt hk2
    simp only [enC] at cf hm
    cases ho : p m with
    | true =>
      rw [if_pos ho] at hf
      rw [hf]
      rw [ho] at cf
      repeat' (first | refine ZV ?_ | refine ZB tm sp ?_ | refine ZH (fun hb => ?_) (fun hb => ?_) | refine ZJ (by conv => lhs; simp [q1, q2, hm, cf, h1, rf, rn, iC]) ?_ | refine ZA (fun hb => ?_) (fun hb => ?_))
      exact RetB.raw [0] rfl (by conv => lhs; simp) (by decide) (by simp) (by simp [rn]) (by simp)
    | false =>
      rw [if_neg (by simp [ho])] at hf
      rw [ho] at cf
      repeat' (first | refine ZV ?_ | refine ZB tm sp ?_ | refine ZH (fun hb => ?_) (fun hb => ?_) | refine ZJ (by conv => lhs; simp [q1, q2, hm, cf, hw, h1, rf, rn, iC]) ?_ | refine ZA (fun hb => ?_) (fun hb => ?_))
      exact ⟨⟨(k + 1, _), by dsimp only; omega, hf, by simp [lk_st]⟩, by dsimp only; omega, AS.le_of rfl ⟨rfl, rfl, rfl, rfl, trivial⟩ (fun _ => rfl)⟩
theorem ixnF_find {p : En → Bool} : ∀ (l : List En) (k : Nat), (ixnF p k l = -1 ∧ l.find? p = none) ∨ ∃ i e, ixnF p k l = ((k + i : Nat) : Int) ∧ l[i]? = some e ∧ l.find? p = some e
  | [], k => .inl ⟨rfl, rfl⟩
  | x :: r, k => by
    rw [ixnF, List.find?_cons]
    cases hp : p x with
    | true => exact .inr ⟨0, x, by simp, rfl, rfl⟩
    | false =>
      rcases ixnF_find (p := p) r (k + 1) with ⟨h1, h2⟩ | ⟨i, y, h1, h2, h3⟩
      · exact .inl ⟨by simpa using h1, h2⟩
      · refine .inr ⟨i + 1, y, ?_, by simpa using h2, h3⟩
        rw [if_neg (by simp), h1]
        congr 1
        omega
def u8K (n : Int) : List AV := [.int .u64 n]
noncomputable def e1S (id : Int) : SpecFn := mkS2 (fun e : En => ([.agg (enC e), .ptr 0 0 0 0], [{ gen := 0, kind := 2, elem := 30, size := 1, inl := false, rows := [u8K id] }])) fun e => (.bool (e.id == id), [{ gen := 0, kind := 2, elem := 30, size := 1, inl := false, rows := [u8K id] }])
theorem e1S_eq (id : Int) (e : En) : e1S id [.agg (enC e), .ptr 0 0 0 0] [{ gen := 0, kind := 2, elem := 30, size := 1, inl := false, rows := [u8K id] }] = some (.bool (e.id == id), [{ gen := 0, kind := 2, elem := 30, size := 1, inl := false, rows := [u8K id] }]) :=
  mkS2_eq (enc := fun e : En => ([AV.agg (enC e), .ptr 0 0 0 0], [{ gen := 0, kind := 2, elem := 30, size := 1, inl := false, rows := [u8K id] }])) (res := fun e => (.bool (e.id == id), [{ gen := 0, kind := 2, elem := 30, size := 1, inl := false, rows := [u8K id] }])) (fun x y h => by
    simp only [Prod.mk.injEq, List.cons.injEq, AV.agg.injEq, and_true] at h
    rw [enC_inj h]) e
theorem e1_ok (id : Int) : FnC Try.prog 115 (e1S id) := by
  refine FnC.walkB 115 (fn := Try.f115) Try.func115 rfl (by kernel_rfl) (fun x b hb => by simp at hb; rw [hb]) fun e => ?_
  obtain ⟨i, ow, rd, o, wt, q⟩ := e
  change W _ (RetB _ _ 1 (.bool (i == id)) [{ gen := 0, kind := 2, elem := 30, size := 1, inl := false, rows := [[.int .u64 id]] }]) _ _ ⟨8, [(0, .agg (.int .u64 i :: .int .i64 ow :: .list 1 (rd.map iC) :: (o.cells ++ [.list 1 (wt.map iC), .list 2 (q.map askC)]))), (1, .ptr 0 0 0 0)], [(0, { gen := 0, kind := 2, elem := 30, size := 1, inl := false, rows := [[.int .u64 id]] })]⟩
  repeat' (first | refine ZV ?_ | refine ZB tm no_specs ?_ | refine ZH (fun hb => ?_) (fun hb => ?_) | refine ZJ (by conv => lhs; simp) ?_ | refine ZA (fun hb => ?_) (fun hb => ?_))
  exact RetB.raw [0] rfl (by conv => lhs; simp) (by decide) (by simp) (by simp [renL]) (by simp)
noncomputable def e1V (id : Int) : ixnW := ⟨115, by simp, by simp, fun e => e.id == id, 30, 1, u8K id, by simp [u8K, refsL, AV.refs], by simp [u8K, renL, AV.ren], e1S id, e1_ok id, e1S_eq id⟩
/-! ### The entry -/
noncomputable def ow0 (id : Int) : Int := if okN (sp0 id) then sp0 id else -1
noncomputable def ent0 (id : Int) : En := ⟨id, ow0 id, [], zOb, [], []⟩
noncomputable def fndD (id : Int) (l : List En) : En := (l.find? fun e => e.id == id).getD (ent0 id)
theorem enLeafs : leafs Try.prog 117 = 30 :: 3 :: 70 :: (leafs Try.prog 48 ++ [70, 115]) := by rw [lf117, lf48]; rfl
theorem enX_nrm (e : En) (i j k g h m a b c x y z : Nat) : nrmR Try.prog [117] (.agg (enX e (.sl i g a x) (.sl j h b y) (.sl k m c z))) = .agg (enX e (.sl i g a x) (.sl j h b y) (.sl k m c z)) := by
  simp only [nrmR, nrmV, enX, enLeafs, nrmL]
  rw [nrmL_append _ _ _ _ e.obj.len'.symm, e.obj.nrmL]
  simp [nrmL, nrmV]
theorem enX_nrm0 (id ow : Int) (i j k g h m a b c x y z : Nat) : nrmR Try.prog [117] (.agg (.int .u64 id :: .int .i64 ow :: .sl i g a x :: (zO ++ [.sl j h b y, .sl k m c z]))) = .agg (enX ⟨id, ow, [], zOb, [], []⟩ (.sl i g a x) (.sl j h b y) (.sl k m c z)) := by
  simp only [nrmR, nrmV, enX, enLeafs, nrmL]
  rw [nrmL_append _ _ _ _ (by rw [obLeafs]; rfl), zN_eq]
  simp [nrmL, nrmV, zOb]
noncomputable def entS : SpecFn := mkS2 (fun d : Drs × Int => ([d.1.v, .int .u64 d.2], [])) fun d => (.agg (enX (fndD d.2 d.1.ents) (.sl 0 0 0 (fndD d.2 d.1.ents).readers.length) (.sl 1 0 0 (fndD d.2 d.1.ents).waiting.length) (.sl 2 0 0 (fndD d.2 d.1.ents).queue.length)), [ixiB (fndD d.2 d.1.ents).readers, ixiB (fndD d.2 d.1.ents).waiting, ixaB (fndD d.2 d.1.ents).queue])
theorem entS_eq (d : Drs) (id : Int) : entS [d.v, .int .u64 id] [] = some (.agg (enX (fndD id d.ents) (.sl 0 0 0 (fndD id d.ents).readers.length) (.sl 1 0 0 (fndD id d.ents).waiting.length) (.sl 2 0 0 (fndD id d.ents).queue.length)), [ixiB (fndD id d.ents).readers, ixiB (fndD id d.ents).waiting, ixaB (fndD id d.ents).queue]) :=
  mkS2_eq (enc := fun d : Drs × Int => ([d.1.v, AV.int .u64 d.2], ([] : List ABlk))) (res := fun d => (.agg (enX (fndD d.2 d.1.ents) (.sl 0 0 0 (fndD d.2 d.1.ents).readers.length) (.sl 1 0 0 (fndD d.2 d.1.ents).waiting.length) (.sl 2 0 0 (fndD d.2 d.1.ents).queue.length)), [ixiB (fndD d.2 d.1.ents).readers, ixiB (fndD d.2 d.1.ents).waiting, ixaB (fndD d.2 d.1.ents).queue])) (fun x y h => by
    simp only [Prod.mk.injEq, List.cons.injEq, AV.int.injEq, true_and, and_true] at h
    obtain ⟨a, b⟩ := x
    obtain ⟨a', b'⟩ := y
    cases Drs.v_inj h.1
    cases h.2
    rfl) (d, id)
theorem ent_ok : FnC Try.prog 49 entS := by
  refine FnC.walkBN 49 (fn := Try.f49) [117] Try.func49 rfl (by kernel_rfl) (fun x b hb => by simp at hb) (fun d => ?_) (fun d => ⟨_, enX_nrm _ _ _ _ _ _ _ _ _ _ _ _ _⟩)
  obtain ⟨⟨nd, l, hl, he⟩, id⟩ := d
  obtain ⟨SV, hSV⟩ : ∃ S, S = ixn1 (e1V id) := ⟨_, rfl⟩
  have sp : ∀ q ∈ ([(114, ⟨3, SV⟩), (116, ⟨1, ownS⟩), (85, ⟨1, spS⟩), (103, ⟨1, boS okN⟩)] : NL Spec), FnC Try.prog q.1 q.2.fn := by
    simp only [List.mem_cons, List.not_mem_nil, or_false]
    rintro q (rfl | rfl | rfl | rfl)
    · rw [hSV]; exact ixn1_ok _
    · exact own_ok
    · exact sp_id
    · exact nod_ok
  have c1 : SV [.list 41 (l.map enC), .fn (.func 115) [] [.ptr 0 0 0 0]] [{ gen := 0, kind := 2, elem := 30, size := 1, inl := false, rows := [[.int .u64 id]] }] = some (.int .i64 (ixnF (fun e => e.id == id) 0 l), [{ gen := 0, kind := 2, elem := 30, size := 1, inl := false, rows := [[.int .u64 id]] }]) := by rw [hSV]; exact ixn1_eq (e1V id) l (by omega)
  clear hSV
  change W _ (RetBN _ _ _ 0 (.agg (enX (fndD id l) (.sl 0 0 0 (fndD id l).readers.length) (.sl 1 0 0 (fndD id l).waiting.length) (.sl 2 0 0 (fndD id l).queue.length))) [ixiB (fndD id l).readers, ixiB (fndD id l).waiting, ixaB (fndD id l).queue]) _ _ ⟨33, [(0, .agg [.int .i64 nd, .list 41 (l.map enC)]), (1, .int .u64 id)], []⟩
  unfold fndD
  rcases ixnF_find (p := fun e => e.id == id) l 0 with ⟨h1, h2⟩ | ⟨i, e, h1, h2, h3⟩
  · rw [h1] at c1
    rw [h2, Option.getD_none]
    unfold ent0
    have c2 := spS_eq id
    have c3 := boS_eq okN (sp0 id)
    obtain ⟨w, hw⟩ : ∃ w, ow0 id = w := ⟨_, rfl⟩
    rw [hw]
    unfold ow0 at hw
    generalize sp0 id = s0 at *
    generalize sp1 id = s1 at *
    generalize sp2 id = s2 at *
    cases ho : okN s0 with
    | true =>
      rw [ho] at c3
      rw [if_pos ho] at hw
      subst hw
      repeat (first | refine ZU ?_ | refine ZK tm sp rfl (by conv => lhs; simp [c1, c2, c3]) fun _ => ?_ | refine ZL tm sp rfl (by conv => lhs; simp [c1, c2, c3]) fun _ => ?_)
      refine W.phR 80 0 2 10001 3 1 true rfl rfl rfl rfl rfl rfl (by decide) ?_
      refine W.phR 80 0 39 10002 3 1 true rfl rfl rfl rfl rfl rfl (by decide) ?_
      refine W.phR 80 0 40 10003 120 2 true rfl rfl rfl rfl rfl rfl (by decide) ?_
      try refine ZT ?_
      refine RetBN.dataE false [10001, 10002, 10003] rfl (by conv => lhs; simp) (by conv => lhs; simp) (by decide) (by simp) (by simp [ixiB, ixaB]) (by conv => lhs; simp [List.idxOf?, List.findIdx?, List.findIdx?.go]) ?_
      exact enX_nrm0 _ _ _ _ _ _ _ _ _ _ _ _ _ _
    | false =>
      rw [ho] at c3
      rw [if_neg (by simp [ho])] at hw
      subst hw
      repeat (first | refine ZU ?_ | refine ZK tm sp rfl (by conv => lhs; simp [c1, c2, c3]) fun _ => ?_ | refine ZL tm sp rfl (by conv => lhs; simp [c1, c2, c3]) fun _ => ?_)
      refine W.phR 80 0 2 10001 3 1 true rfl rfl rfl rfl rfl rfl (by decide) ?_
      refine W.phR 80 0 39 10002 3 1 true rfl rfl rfl rfl rfl rfl (by decide) ?_
      refine W.phR 80 0 40 10003 120 2 true rfl rfl rfl rfl rfl rfl (by decide) ?_
      try refine ZT ?_
      refine RetBN.dataE false [10001, 10002, 10003] rfl (by conv => lhs; simp) (by conv => lhs; simp) (by decide) (by simp) (by simp [ixiB, ixaB]) (by conv => lhs; simp [List.idxOf?, List.findIdx?, List.findIdx?.go]) ?_
      exact enX_nrm0 _ _ _ _ _ _ _ _ _ _ _ _ _ _
  · simp only [Nat.zero_add] at h1
    rw [h1] at c1
    rw [h3, Option.getD_some]
    have hi := (List.getElem?_eq_some_iff.1 h2).1
    have hm : (l.map enC)[i]? = some (enC e) := by rw [List.getElem?_map, h2]; rfl
    have c2 := ownS_eq e (he e (List.mem_of_getElem? h2))
    simp only [enC] at hm c2
    have q1 : (i : Int) < l.length := by omega
    have q2 : ¬ l.length ≤ i := by omega
    have q3 : (0 : Int) ≤ (i : Int) := by omega
    repeat' (first | refine ZV ?_ | refine ZB tm sp ?_ | refine ZH (fun hb => ?_) (fun hb => ?_) | refine ZJ (by conv => lhs; simp [c1, c2, hm, q1, q2, q3, enX, ixiB, ixaB]) ?_ | refine ZA (fun hb => ?_) (fun hb => ?_))
    refine RetBN.dataE false [336, 337, 338] rfl (by conv => lhs; simp) (by conv => lhs; simp) (by decide) (by simp) (by simp [ixiB, ixaB]) (by conv => lhs; simp [List.idxOf?, List.findIdx?, List.findIdx?.go]) ?_
    exact enX_nrm e _ _ _ _ _ _ _ _ _ _ _ _
end Go.Abs.Na
namespace Go.Abs.Na
open Go Go.Proofs Go.Abs
set_option maxRecDepth 100000
set_option maxHeartbeats 4000000
set_option linter.unusedSimpArgs false
set_option linter.unusedVariables false
attribute [local simp] instA
attribute [-simp] mkv
attribute [local simp] mkv_hd hdA_cons hdA_ob hdA_ob'
/-- An entry that goes on, and the messages that come about. -/
@[simp] def sesC (e : En) (nd : Int) (M : AV) : List AV := .int .u64 e.id :: .int .i64 e.owner :: .list 1 (e.readers.map iC) :: (e.obj.cells ++ [.list 1 (e.waiting.map iC), .list 2 (e.queue.map askC), .int .i64 nd, M])
def sesB (e : En) (nd : Int) (M : AV) : ABlk := { gen := 0, kind := 2, elem := 162, size := 43, inl := false, rows := [sesC e nd M] }
def msgB (g : Nat) (ms : List Msg) : ABlk := { gen := g, kind := 2, elem := 50, size := 45, inl := true, rows := ms.map Msg.v }
theorem msv_inj {l m : List Msg} (h : l.map Msg.v = m.map Msg.v) : l = m := map_inj' (fun a b h => by
  obtain ⟨a1, a2, a3, a4, a5, o, a6, a7, a8, a9⟩ := a
  obtain ⟨b1, b2, b3, b4, b5, p, b6, b7, b8, b9⟩ := b
  simp only [Msg.v, List.cons.injEq, AV.int.injEq, true_and] at h
  obtain ⟨rfl, rfl, rfl, rfl, rfl, h⟩ := h
  obtain ⟨h1, h2⟩ := List.append_inj h (by simp)
  simp only [List.cons.injEq, AV.int.injEq, true_and, and_true] at h2
  obtain ⟨rfl, rfl, rfl, rfl⟩ := h2
  rw [Td.ext h1]) h
theorem sesC_inj {e e' : En} {nd nd' : Int} {M M' : AV} (h : sesC e nd M = sesC e' nd' M') : e = e' ∧ nd = nd' ∧ M = M' := by
  obtain ⟨a, b, r, o, w, q⟩ := e
  obtain ⟨a', b', r', o', w', q'⟩ := e'
  simp only [sesC, List.cons.injEq, AV.int.injEq, AV.list.injEq, true_and] at h
  obtain ⟨rfl, rfl, h0, h⟩ := h
  obtain ⟨h1, h2⟩ := List.append_inj h (by simp)
  simp only [List.cons.injEq, AV.list.injEq, AV.int.injEq, true_and, and_true] at h2
  cases iC_inj h0
  cases iC_inj h2.1
  cases askC_inj h2.2.1
  rw [Td.ext h1]
  exact ⟨rfl, h2.2.2.1, h2.2.2.2⟩
def graM (nd id n m : Int) (o : Ob) : Msg := ⟨nd, n, 2, id, m, o, 0, 0, 0, 0⟩
noncomputable def revM (nd id n : Int) : Msg := ⟨nd, n, 3, id, 0, zOb, 0, 0, 0, 0⟩
structure Gr where
  e : En
  nd : Int
  ms : List Msg
  n : Int
  m : Int
  q : List (Int × Int)
  hq : e.queue = (n, m) :: q
  hl : e.queue.length ≤ 9000
  hm : ms.length ≤ 90000
noncomputable def graS : SpecFn := mkS2 (fun x : Gr => ([.ptr 0 0 0 0], [sesB x.e x.nd (.sl 1 0 0 x.ms.length), msgB 0 x.ms])) fun x => (.tup [], [sesB { x.e with queue := x.q } x.nd (.sl 1 1 0 (x.ms.length + 1)), msgB 1 (x.ms ++ [graM x.nd x.e.id x.n x.m x.e.obj])])
theorem graS_eq (x : Gr) : graS [.ptr 0 0 0 0] [sesB x.e x.nd (.sl 1 0 0 x.ms.length), msgB 0 x.ms] = some (.tup [], [sesB { x.e with queue := x.q } x.nd (.sl 1 1 0 (x.ms.length + 1)), msgB 1 (x.ms ++ [graM x.nd x.e.id x.n x.m x.e.obj])]) :=
  mkS2_eq (enc := fun x : Gr => ([AV.ptr 0 0 0 0], [sesB x.e x.nd (.sl 1 0 0 x.ms.length), msgB 0 x.ms])) (res := fun x => (.tup [], [sesB { x.e with queue := x.q } x.nd (.sl 1 1 0 (x.ms.length + 1)), msgB 1 (x.ms ++ [graM x.nd x.e.id x.n x.m x.e.obj])])) (fun x y h => by
    obtain ⟨e, nd, ms, n, m, q, hq, hl, hm⟩ := x
    obtain ⟨e', nd', ms', n', m', q', hq', hl', hm'⟩ := y
    simp only [sesB, msgB, Prod.mk.injEq, List.cons.injEq, ABlk.mk.injEq, true_and, and_true] at h
    obtain ⟨rfl, rfl, h3⟩ := sesC_inj h.1
    cases msv_inj h.2
    rw [hq] at hq'
    cases hq'
    rfl) x
noncomputable def gra_specs : NL Spec := [(56, ⟨1, cobS⟩)]
theorem gra_specs_ok : ∀ p ∈ gra_specs, FnC Try.prog p.1 p.2.fn := by
  simp only [gra_specs, List.mem_cons, List.not_mem_nil, or_false]
  rintro p rfl
  exact cob_ok
attribute [local simp] gra_specs
theorem gra_ok : FnC Try.prog 214 graS := by
  refine FnC.walkM 214 (fn := Try.f214) Try.func214 rfl (by kernel_rfl) (fun x b hb => by simp at hb; rcases hb with rfl | rfl <;> rfl) fun x => ?_
  obtain ⟨⟨id, ow, rd, o, wt, q0⟩, nd, ms, n, m, q, hq, hl, hm⟩ := x
  dsimp only at hq hl
  subst hq
  have c1 := cobS_eq o
  have y0 : ms.length ≤ 9223372036854775807 := by omega
  have y1 : ms.length ≤ maxLen := by simp only [maxLen]; omega
  have y2 : (ms.length + 1) * 536 ≤ 140737488355328 := by omega
  have y4 : ms.length + 1 ≤ maxLen := by simp only [maxLen]; omega
  have y5 : q.length + 1 ≤ 9223372036854775807 := by simp only [List.length_cons] at hl; omega
  change W _ (RetM _ _ 2 (.tup []) [sesB ⟨id, ow, rd, o, wt, q⟩ nd (.sl 1 1 0 (ms.length + 1)), msgB 1 (ms ++ [graM nd id n m o])]) _ _ ⟨49, [(0, .ptr 0 0 0 0)], [(0, { gen := 0, kind := 2, elem := 162, size := 43, inl := false, rows := [.int .u64 id :: .int .i64 ow :: .list 1 (rd.map iC) :: (o.cells ++ [.list 1 (wt.map iC), .list 2 ([.int .i64 n, .int .i64 m] :: q.map askC), .int .i64 nd, .sl 1 0 0 ms.length])] }), (1, { gen := 0, kind := 2, elem := 50, size := 45, inl := true, rows := ms.map Msg.v })]⟩
  have tq : List.take q.length (q.map askC) = q.map askC := List.take_of_length_le (by simp)
  repeat' (first | refine ZV ?_ | refine ZB tm gra_specs_ok ?_ | refine ZH (fun hb => ?_) (fun hb => ?_) | refine ZJ (by conv => lhs; simp [c1, y0, y1, y2, y4, y5, tq, m1]) ?_ | refine ZA (fun hb => ?_) (fun hb => ?_))
  refine retM2_ok false [0, 1] [0, 1] ?_
  simp [retM2, movedOK, oldOK, frqT, frqV, frqVs, frqL, frq1, expG, expB3, renB, AV.ren, renL, List.range, List.range.loop, resVs, resV, pack, List.zipWith, List.idxOf?, List.findIdx?, List.findIdx?.go, sesB, msgB, graM, tq]
/-! ### Demanding -/
structure De where
  e : En
  nd : Int
  ms : List Msg
  ns : List Int
  h0 : 0 < ns.length
  hl : ns.length ≤ 9100
  hm : ms.length ≤ 90000
def frzB (l : List Int) : ABlk := { gen := 0, kind := 1, elem := 3, size := 1, inl := true, rows := l.map iC }
noncomputable def demR (x : De) : AV × List ABlk := (.tup [], [sesB { x.e with waiting := x.ns } x.nd (.sl 2 1 0 (x.ms.length + x.ns.length)), frzB x.ns, msgB 1 (x.ms ++ x.ns.map (revM x.nd x.e.id))])
noncomputable def demS : SpecFn := mkS2 (fun x : De => ([.ptr 0 0 0 0, .sl 1 0 0 x.ns.length], [sesB x.e x.nd (.sl 2 0 0 x.ms.length), ixiB x.ns, msgB 0 x.ms])) demR
theorem demS_eq (x : De) : demS [.ptr 0 0 0 0, .sl 1 0 0 x.ns.length] [sesB x.e x.nd (.sl 2 0 0 x.ms.length), ixiB x.ns, msgB 0 x.ms] = some (demR x) :=
  mkS2_eq (enc := fun x : De => ([AV.ptr 0 0 0 0, .sl 1 0 0 x.ns.length], [sesB x.e x.nd (.sl 2 0 0 x.ms.length), ixiB x.ns, msgB 0 x.ms])) (res := demR) (fun x y h => by
    obtain ⟨e, nd, ms, ns, h0, hl, hm⟩ := x
    obtain ⟨e', nd', ms', ns', h0', hl', hm'⟩ := y
    simp only [sesB, msgB, ixiB, Prod.mk.injEq, List.cons.injEq, ABlk.mk.injEq, true_and, and_true] at h
    obtain ⟨rfl, rfl, h3⟩ := sesC_inj h.2.1
    cases iC_inj h.2.2.1
    cases msv_inj h.2.2.2
    rfl) x
theorem msg_nrms (l : List Msg) : (l.map Msg.v).map (nrmL Try.prog (leafs Try.prog 50)) = l.map Msg.v := by
  rw [List.map_map]
  exact List.map_congr_left fun x _ => msg_nrm x
theorem dem_ok : FnC Try.prog 213 demS := by
  refine FnC.walkM 213 (fn := Try.f213) Try.func213 rfl (by kernel_rfl) (fun x b hb => by simp at hb; rcases hb with rfl | rfl | rfl <;> rfl) fun x => ?_
  obtain ⟨⟨id, ow, rd, o, wt, q⟩, nd, ms, ns, h0, hl, hm⟩ := x
  change W _ (RetM _ _ 3 (.tup []) [sesB ⟨id, ow, rd, o, ns, q⟩ nd (.sl 2 1 0 (ms.length + ns.length)), frzB ns, msgB 1 (ms ++ ns.map (revM nd id))]) _ _ ⟨38, [(0, .ptr 0 0 0 0), (1, .sl 1 0 0 ns.length)], [(0, { gen := 0, kind := 2, elem := 162, size := 43, inl := false, rows := [.int .u64 id :: .int .i64 ow :: .list 1 (rd.map iC) :: (o.cells ++ [.list 1 (wt.map iC), .list 2 (q.map askC), .int .i64 nd, .sl 2 0 0 ms.length])] }), (1, { gen := 0, kind := 2, elem := 3, size := 1, inl := true, rows := ns.map iC }), (2, { gen := 0, kind := 2, elem := 50, size := 45, inl := true, rows := ms.map Msg.v })]⟩
  have cap : ns.length ≤ 9223372036854775807 := by omega
  have tn : List.take ns.length (ns.map iC) = ns.map iC := List.take_of_length_le (by simp)
  refine W.frz 1 rfl (by conv => lhs; simp [frqT, frqV, frqVs, frqL, frq1, tn]) ?_
  repeat' (first | refine ZV ?_ | refine ZB tm no_specs ?_ | refine ZH (fun hb => ?_) (fun hb => ?_) | refine ZJ (by conv => lhs; simp [cap]) ?_ | refine ZA (fun hb => ?_) (fun hb => ?_))
  refine W.loop rfl (ι := { x : Nat × NL ABlk // x.1 ≤ ns.length ∧ lk x.2 0 = some { gen := 0, kind := 2, elem := 162, size := 43, inl := false, rows := [.int .u64 id :: .int .i64 ow :: .list 1 (rd.map iC) :: (o.cells ++ [.list 1 (ns.map iC), .list 2 (q.map askC), .int .i64 nd, .sl 2 x.1 0 (ms.length + x.1)])] } ∧ lk x.2 1 = some (frzB ns) ∧ lk x.2 2 = some (msgB x.1 (ms ++ (ns.take x.1).map (revM nd id))) })
    (fun x => ⟨38, [(0, .ptr 0 0 0 0), (11, .list 1 (ns.map iC)), (12, .int .i64 ns.length), (13, .int .i64 (x.1.1 : Nat))], x.1.2⟩) (fun x => ns.length - x.1.1)
    ⟨(0, _), by simp, by simp [lk_st], by simp [lk_st, frzB], by simp [lk_st, msgB]⟩ (AS.le_of rfl ⟨rfl, rfl, rfl, rfl, trivial⟩ (fun _ => rfl)) ?_
  rintro ⟨⟨k, h⟩, hk, g0, g1, g2⟩
  dsimp only at hk g0 g1 g2 ⊢
  by_cases hk2 : k = ns.length
  · subst hk2
    rw [List.take_length] at g2
    repeat' (first | refine ZV ?_ | refine ZB tm no_specs ?_ | refine ZH (fun hb => ?_) (fun hb => ?_) | refine ZJ (by conv => lhs; simp) ?_ | refine ZA (fun hb => ?_) (fun hb => ?_))
    refine retM2_ok false [0, 1, 2] [0, 0, 1] ?_
    simp [retM2, movedOK, oldOK, frqT, frqV, frqVs, frqL, frq1, expG, expB3, renB, AV.ren, renL, List.range, List.range.loop, resVs, resV, pack, List.zipWith, List.idxOf?, List.findIdx?, List.findIdx?.go, sesB, msgB, g0, g1, g2, frzB]
  · have hlt : k < ns.length := by omega
    obtain ⟨n, hr⟩ := get_lt hlt
    have hm2 : (ns.map iC)[k]? = some [.int .i64 n] := by rw [List.getElem?_map, hr]; rfl
    have q1 : (k : Int) < ns.length := by omega
    have q2 : ¬ ns.length ≤ k := by omega
    have hw : IntKind.i64.wrap ((k : Int) + 1) = ((k + 1 : Nat) : Int) := w64 (by omega) (by omega)
    have ht : (ns.take (k + 1)).map (revM nd id) = (ns.take k).map (revM nd id) ++ [revM nd id n] := by rw [List.take_add_one, hr, Option.toList_some, List.map_append]; rfl
    have hlen : (ms ++ (ns.take k).map (revM nd id)).length = ms.length + k := by simp; omega
    obtain ⟨A, hA⟩ : ∃ A, ms ++ (ns.take k).map (revM nd id) = A := ⟨_, rfl⟩
    have hA2 : ms ++ (ns.take (k + 1)).map (revM nd id) = A ++ [revM nd id n] := by rw [ht, ← hA, List.append_assoc]
    rw [hA] at hlen g2
    obtain ⟨a, ha⟩ : ∃ a, ms.length + k = a := ⟨_, rfl⟩
    rw [ha] at hlen g0
    have e1 : ms.length + (k + 1) = a + 1 := by omega
    have y0 : a ≤ 9223372036854775807 := by omega
    have y1 : a ≤ maxLen := by simp only [maxLen]; omega
    have y2 : (a + 1) * 536 ≤ 140737488355328 := by omega
    have y4 : a + 1 ≤ maxLen := by simp only [maxLen]; omega
    have tA : List.take a (A.map Msg.v) = A.map Msg.v := List.take_of_length_le (by simp; omega)
    have gA := g2
    unfold msgB at g2
    clear hlt hk2 hm
    repeat' (first | refine ZV ?_ | refine ZB (id := 2) tm no_specs ?_ | refine ZB (id := 3) tm no_specs ?_ | refine ZB (id := 4) tm no_specs ?_ | refine ZH (fun hb => ?_) (fun hb => ?_) | refine ZJ (by conv => lhs; simp [q1, q2, hm2, g0, g1, g2, y0, y1, y2, y4, m1, tA, hlen]) ?_ | refine ZA (fun hb => ?_) (fun hb => ?_))
    obtain ⟨L, hL⟩ : ∃ L, leafs Try.prog 50 = L := ⟨_, rfl⟩
    refine W.nrmB 2 L (by simp only [lk_st]; rfl) rfl ?_
    repeat' (first | refine ZV ?_ | refine ZB tm no_specs ?_ | refine ZH (fun hb => ?_) (fun hb => ?_) | refine ZJ (by conv => lhs; simp [hw]) ?_ | refine ZA (fun hb => ?_) (fun hb => ?_))
    have hrow : List.map (nrmL Try.prog L) (firstRows a (A.map Msg.v)) ++ [nrmL Try.prog L (.int .i64 nd :: .int .i64 n :: .int .i64 3 :: .int .u64 id :: .int .i64 0 :: (zO ++ [.int .u64 0, .int .i64 0, .int .u64 0, .int .i64 0]))] = (A ++ [revM nd id n]).map Msg.v := by
      rw [← hL, first_all (by simpa using hlen), msg_nrms, List.map_append, msg_nrm0]
      rfl
    exact ⟨⟨(k + 1, _), by dsimp only; omega, by simp [lk_st, e1], by simp [lk_st, g1], by
      dsimp only
      rw [hA2]
      simp only [lk_st, msgB]
      exact congrArg (fun r => some ({ gen := k + 1, kind := 2, elem := 50, size := 45, inl := true, rows := r } : ABlk)) hrow⟩, by dsimp only; omega, AS.le_of rfl ⟨rfl, rfl, rfl, rfl, trivial⟩ (fun _ => rfl)⟩
end Go.Abs.Na
namespace Go.Abs.Na
open Go Go.Proofs Go.Abs
set_option maxRecDepth 100000
set_option maxHeartbeats 4000000
set_option linter.unusedSimpArgs false
set_option linter.unusedVariables false
attribute [local simp] instA
attribute [-simp] mkv
attribute [local simp] mkv_hd hdA_cons hdA_ob hdA_ob'
/-! ### The node of a request -/
noncomputable def g1S (a m : Int) : SpecFn := mkS2 (fun n : Int => ([.int .i64 n, .ptr 0 0 0 0], [{ gen := 0, kind := 2, elem := 120, size := 2, inl := false, rows := [askC (a, m)] }])) fun n => (.bool (n == a), [{ gen := 0, kind := 2, elem := 120, size := 2, inl := false, rows := [askC (a, m)] }])
theorem g1S_eq (a m n : Int) : g1S a m [.int .i64 n, .ptr 0 0 0 0] [{ gen := 0, kind := 2, elem := 120, size := 2, inl := false, rows := [askC (a, m)] }] = some (.bool (n == a), [{ gen := 0, kind := 2, elem := 120, size := 2, inl := false, rows := [askC (a, m)] }]) :=
  mkS2_eq (enc := fun n : Int => ([AV.int .i64 n, .ptr 0 0 0 0], [{ gen := 0, kind := 2, elem := 120, size := 2, inl := false, rows := [askC (a, m)] }])) (res := fun n => (.bool (n == a), [{ gen := 0, kind := 2, elem := 120, size := 2, inl := false, rows := [askC (a, m)] }])) (fun x y h => by
    simp only [Prod.mk.injEq, List.cons.injEq, AV.int.injEq, true_and, and_true] at h
    rw [h]) n
theorem g1_ok (a m : Int) : FnC Try.prog 212 (g1S a m) := by
  refine FnC.walkB 212 (fn := Try.f212) Try.func212 rfl (by kernel_rfl) (fun x b hb => by simp at hb; rw [hb]) fun n => ?_
  change W _ (RetB _ _ 1 (.bool (n == a)) [{ gen := 0, kind := 2, elem := 120, size := 2, inl := false, rows := [[.int .i64 a, .int .i64 m]] }]) _ _ ⟨8, [(0, .int .i64 n), (1, .ptr 0 0 0 0)], [(0, { gen := 0, kind := 2, elem := 120, size := 2, inl := false, rows := [[.int .i64 a, .int .i64 m]] })]⟩
  repeat' (first | refine ZV ?_ | refine ZB tm no_specs ?_ | refine ZH (fun hb => ?_) (fun hb => ?_) | refine ZJ (by conv => lhs; simp) ?_ | refine ZA (fun hb => ?_) (fun hb => ?_))
  exact RetB.raw [0] rfl (by conv => lhs; simp) (by decide) (by simp) (by simp [renL]) (by simp)
noncomputable def g1V (a m : Int) : ixiW := ⟨212, by simp, by simp, fun n => n == a, 120, 2, askC (a, m), by simp [askC, refsL, AV.refs], by simp [askC, renL, AV.ren], g1S a m, g1_ok a m, g1S_eq a m⟩
/-! ### Sorting -/
def srt (l : List Int) : List Int := l.mergeSort fun x y => decide (x ≤ y)
noncomputable def sortS : SpecFn := mkS2 (fun l : {l : List Int // 0 < l.length ∧ l.length ≤ 9100} => ([.sl 0 0 0 l.1.length], [ixiB l.1])) fun l => (.tup [], [ixiB (srt l.1)])
theorem sortS_eq (l : List Int) (h0 : 0 < l.length) (h : l.length ≤ 9100) : sortS [.sl 0 0 0 l.length] [ixiB l] = some (.tup [], [ixiB (srt l)]) :=
  mkS2_eq (enc := fun l : {l : List Int // 0 < l.length ∧ l.length ≤ 9100} => ([AV.sl 0 0 0 l.1.length], [ixiB l.1])) (res := fun l => (.tup [], [ixiB (srt l.1)])) (fun x y h => by
    simp only [ixiB, Prod.mk.injEq, List.cons.injEq, ABlk.mk.injEq, true_and, and_true] at h
    rw [iC_inj h.2]) ⟨l, h0, h⟩
theorem sort_ok : FnC Try.prog 215 sortS := FnC.sortK .i64 3 srt (fun l => List.length_mergeSort l) Try.func215 (by kernel_rfl) (by kernel_rfl) fun blk off cap zs w h1 h2 h3 => Try.slices_Sort_int blk off cap zs w h1 h2 h3
theorem srt_perm (l : List Int) : (srt l).Perm l := List.mergeSort_perm _ _
theorem srt_le (l : List Int) : (srt l).Pairwise (· ≤ ·) := by
  have := List.pairwise_mergeSort (le := fun x y : Int => decide (x ≤ y)) (fun a b c h1 h2 => by simp only [decide_eq_true_eq] at *; omega) (fun a b => by simp only [Bool.or_eq_true, decide_eq_true_eq]; omega) l
  exact this.imp fun h => by simpa using h
theorem ins_perm (n : Int) : ∀ l : List Int, (Dir.ins n l).Perm (n :: l)
  | [] => .refl _
  | x :: r => by
    rw [Dir.ins]
    split
    · exact ((ins_perm n r).cons x).trans (.swap n x r)
    · exact .refl _
theorem srt_ins {l : List Int} {n : Int} (h : Dir.Asc l) (hn : n ∉ l) : srt (l ++ [n]) = Dir.ins n l := by
  refine List.Perm.eq_of_pairwise (le := (· ≤ ·)) (fun a b _ _ h1 h2 => by omega) (srt_le _) ((Dir.asc_ins h hn).imp fun h => by omega) ?_
  refine (srt_perm _).trans ?_
  refine List.Perm.trans ?_ (ins_perm n l).symm
  exact List.perm_append_comm
/-! ### Going on -/
noncomputable def mgM (nd id : Int) : Dir.Mg Ob → Msg
  | .rev to => revM nd id to
  | .grant to m o => graM nd id to m o
structure Go where
  e : En
  nd : Int
  h1 : e.readers.length + e.queue.length ≤ 9000
  h2 : e.waiting.length ≤ 9000
  h3 : Dir.Asc e.readers
noncomputable def goM (e : En) (nd : Int) : List Msg := (Dir.goOn zOb e).1.map (mgM nd e.id)
noncomputable def goR (e : En) (nd : Int) : AV × List ABlk := (.tup [], [sesB (Dir.goOn zOb e).2 nd (.sl 1 0 0 (goM e nd).length), msgB 0 (goM e nd)])
noncomputable def goS : SpecFn := mkS2 (fun x : Go => ([.ptr 0 0 0 0], [sesB x.e x.nd .nils])) fun x => goR x.e x.nd
theorem goS_eq (x : Go) : goS [.ptr 0 0 0 0] [sesB x.e x.nd .nils] = some (goR x.e x.nd) :=
  mkS2_eq (enc := fun x : Go => ([AV.ptr 0 0 0 0], [sesB x.e x.nd .nils])) (res := fun x => goR x.e x.nd) (fun x y h => by
    simp only [sesB, Prod.mk.injEq, List.cons.injEq, ABlk.mk.injEq, true_and, and_true] at h
    obtain ⟨h1, h2, h3⟩ := sesC_inj h
    rw [h1, h2]) x
/-- The state of the loop: what was done, what is left. -/
structure GoI (e0 : En) (nd : Int) where
  e : En
  ms : List Msg
  g : Nat
  RC : AV
  row : List AV
  h : NL ABlk
  id : e.id = e0.id
  h1 : e.readers.length + e.queue.length ≤ 9000
  h2 : e.waiting.length ≤ 9100
  h3 : Dir.Asc e.readers
  h4 : ms.length + e.queue.length ≤ 9000
  res : Dir.goOn zOb e0 = ((Dir.goOn zOb e0).1, (Dir.goOn zOb e).2)
  msg : goM e0 nd = ms ++ goM e nd
  hr : lk h 0 = some { gen := 0, kind := 2, elem := 162, size := 43, inl := false, rows := [row] }
  hn : nrmL Try.prog (leafs Try.prog 162) row = .int .u64 e.id :: .int .i64 e.owner :: RC :: (e.obj.cells ++ [.list 1 (e.waiting.map iC), .list 2 (e.queue.map askC), .int .i64 nd, .sl 20000 g 0 ms.length])
  hR : RC = .list 1 (e.readers.map iC) ∨ ∃ g', RC = .sl 528 g' 0 e.readers.length ∧ lk h 528 = some (ixiBg g' e.readers)
  hM : lk h 20000 = some (msgB g ms)
theorem sesLeafs : leafs Try.prog 162 = 30 :: 3 :: 70 :: (leafs Try.prog 48 ++ [70, 115, 3, 87]) := by rw [lf162, lf48]; rfl
theorem lfI : leafs Try.prog 3 = [3] := by kernel_rfl
theorem iC_nrm (x : Int) : nrmL Try.prog (leafs Try.prog 3) (iC x) = iC x := by simp [iC, nrmL, nrmV, lfI]
theorem askC_nrm (x : Int × Int) : nrmL Try.prog (leafs Try.prog 120) (askC x) = askC x := by simp [askC, nrmL, nrmV]
theorem uI : Try.prog.underlying 70 = some (.slice 3) := by kernel_rfl
theorem uA : Try.prog.underlying 115 = some (.slice 120) := by kernel_rfl
theorem cI : Try.prog.cellsOf 3 = 1 := by kernel_rfl
theorem ses_nrm (e : En) (nd : Int) (RC : AV) (g k : Nat) (hR : nrmV Try.prog 70 RC = RC) : nrmL Try.prog (leafs Try.prog 162) (.int .u64 e.id :: .int .i64 e.owner :: RC :: (e.obj.cells ++ [.list 1 (e.waiting.map iC), .list 2 (e.queue.map askC), .int .i64 nd, .sl 20000 g 0 k])) = .int .u64 e.id :: .int .i64 e.owner :: RC :: (e.obj.cells ++ [.list 1 (e.waiting.map iC), .list 2 (e.queue.map askC), .int .i64 nd, .sl 20000 g 0 k]) := by
  rw [sesLeafs]
  simp only [nrmL, hR]
  rw [nrmL_append _ _ _ _ e.obj.len'.symm, e.obj.nrmL]
  simp only [nrmL, nrmV, uI, uA, nrmRows_map iC_nrm, nrmRows_map askC_nrm]
theorem ses_nrm0 (id ow nd : Int) (wt : List Int) (q : List (Int × Int)) (g k : Nat) : nrmL Try.prog (leafs Try.prog 162) (.int .u64 id :: .int .i64 ow :: .nils :: (zO ++ [.list 1 (wt.map iC), .list 2 (q.map askC), .int .i64 nd, .sl 20000 g 0 k])) = .int .u64 id :: .int .i64 ow :: .list 1 ([].map iC) :: (zOb.cells ++ [.list 1 (wt.map iC), .list 2 (q.map askC), .int .i64 nd, .sl 20000 g 0 k]) := by
  rw [sesLeafs]
  simp only [nrmL]
  rw [nrmL_append _ _ _ _ (by rw [obLeafs]; rfl), zN_eq]
  simp only [nrmL, nrmV, uI, uA, nrmRows_map iC_nrm, nrmRows_map askC_nrm, cI, zOb, List.map_nil]
theorem rc_list (l : List Int) : nrmV Try.prog 70 (.list 1 (l.map iC)) = .list 1 (l.map iC) := by simp only [nrmV, uI, nrmRows_map iC_nrm]
theorem rc_sl (a b c d : Nat) : nrmV Try.prog 70 (.sl a b c d) = .sl a b c d := by simp only [nrmV]
/-! What going on comes to, step by step. -/
theorem go_wait {e : En} (h : e.waiting ≠ []) : Dir.goOn zOb e = ([], e) := by rw [Dir.goOn, if_neg h]
theorem go_nil {e : En} (h : e.queue = []) : Dir.goOn zOb e = ([], e) := by
  obtain ⟨id, ow, rd, o, wt, q⟩ := e
  dsimp only at h
  subst h
  by_cases hw : wt = []
  · subst hw; rfl
  · rw [go_wait hw]
theorem go_own {e : En} {a m : Int} {q : List (Int × Int)} (hw : e.waiting = []) (hq : e.queue = (a, m) :: q) (ho : e.owner ≠ -1) : Dir.goOn zOb e = ([.rev e.owner], { e with waiting := [e.owner] }) := by
  rw [Dir.goOn, if_pos hw, hq, Dir.goQ, if_pos ho, ← hq]
theorem go_read {e : En} {a : Int} {q : List (Int × Int)} (hw : e.waiting = []) (hq : e.queue = (a, 1) :: q) (ho : e.owner = -1) : Dir.goOn zOb e = (.grant a 1 e.obj :: (Dir.goOn zOb { e with readers := Dir.ins a (Dir.oth e.readers a), queue := q }).1, (Dir.goOn zOb { e with readers := Dir.ins a (Dir.oth e.readers a), queue := q }).2) := by
  rw [Dir.goOn, if_pos hw, hq, Dir.goQ, if_neg (by simp [ho]), if_pos rfl]
  rw [Dir.goOn, if_pos hw]
theorem go_dem {e : En} {a m : Int} {q : List (Int × Int)} (hw : e.waiting = []) (hq : e.queue = (a, m) :: q) (ho : e.owner = -1) (hm : m ≠ 1) (hd : Dir.oth e.readers a ≠ []) : Dir.goOn zOb e = ((Dir.oth e.readers a).map .rev, { e with waiting := Dir.oth e.readers a }) := by
  rw [Dir.goOn, if_pos hw, hq, Dir.goQ, if_neg (by simp [ho]), if_neg hm, if_pos hd, ← hq]
theorem go_write {e : En} {a m : Int} {q : List (Int × Int)} (hw : e.waiting = []) (hq : e.queue = (a, m) :: q) (ho : e.owner = -1) (hm : m ≠ 1) (hd : Dir.oth e.readers a = []) : Dir.goOn zOb e = (.grant a m e.obj :: (Dir.goOn zOb { e with owner := a, readers := [], obj := zOb, queue := q }).1, (Dir.goOn zOb { e with owner := a, readers := [], obj := zOb, queue := q }).2) := by
  rw [Dir.goOn, if_pos hw, hq, Dir.goQ, if_neg (by simp [ho]), if_neg hm, if_neg (by simp [hd])]
  rw [Dir.goOn, if_pos hw]
end Go.Abs.Na
namespace Go.Abs.Na
open Go Go.Proofs Go.Abs
set_option maxRecDepth 100000
set_option maxHeartbeats 4000000
set_option linter.unusedSimpArgs false
set_option linter.unusedVariables false
attribute [local simp] instA slice3A slice3C
attribute [-simp] mkv
attribute [local simp] mkv_hd hdA_cons hdA_ob hdA_ob'
theorem go_head {e0 : En} {nd : Int} {Q : AS → Prop} {c : Code} {fs : List Fr} {ts : NL AV} (x : GoI e0 nd) (hw : ∀ h', lk h' 0 = some { gen := 0, kind := 2, elem := 162, size := 43, inl := false, rows := [.int .u64 x.e.id :: .int .i64 x.e.owner :: .list 1 (x.e.readers.map iC) :: (x.e.obj.cells ++ [.list 1 (x.e.waiting.map iC), .list 2 (x.e.queue.map askC), .int .i64 nd, .sl 20000 x.g 0 x.ms.length])] } → lk h' 20000 = some (msgB x.g x.ms) → W Try.prog Q c fs ⟨95, ts, h'⟩) : W Try.prog Q c fs ⟨95, ts, x.h⟩ := by
  obtain ⟨e, ms, g, RC, row, h, hid, h1, h2, h3, h4, res, msg, hr, hn, hR, hM⟩ := x
  dsimp only at hw ⊢
  obtain ⟨L, hL⟩ : ∃ L, leafs Try.prog 162 = L := ⟨_, rfl⟩
  rw [hL] at hn
  refine W.nrmB 0 L hr rfl ?_
  dsimp only
  rw [List.map_cons, List.map_nil, hn]
  have hM' : ∀ b, lk (st h 0 b) 20000 = some (msgB g ms) := fun b => by rw [lk_st, if_neg (by decide)]; exact hM
  rcases hR with rfl | ⟨g', rfl, hb⟩
  · exact hw _ (by rw [lk_st, if_pos rfl]) (hM' _)
  · have tk : List.take e.readers.length (e.readers.map iC) = e.readers.map iC := List.take_of_length_le (by simp)
    refine W.frzC 0 0 2 (by rw [lk_st, if_pos rfl]) rfl rfl rfl rfl (by conv => lhs; simp [frqT, frqV, frq1, frz1, AP.run, lk_st, hb, ixiBg, tk]) (by rw [lk_st, if_neg (by decide), lk_st, if_pos rfl]) ?_
    exact hw _ (by rw [lk_st, if_pos rfl]; rfl) (by rw [lk_st, if_neg (by decide), lk_st, if_neg (by decide)]; exact hM' _)
theorem go_ok : FnC Try.prog 174 goS := by
  refine FnC.walkM 174 (fn := Try.f174) Try.func174 rfl (by kernel_rfl) (fun x b hb => by simp at hb; rw [hb]; rfl) fun x => ?_
  obtain ⟨e0, nd, k1, k2, k3⟩ := x
  have sp0 : ∀ q ∈ ([] : NL Spec), FnC Try.prog q.1 q.2.fn := by simp
  change W _ (RetM _ _ 1 (.tup []) [sesB (Dir.goOn zOb e0).2 nd (.sl 1 0 0 (goM e0 nd).length), msgB 0 (goM e0 nd)]) _ _ ⟨95, [(0, .ptr 0 0 0 0)], [(0, { gen := 0, kind := 2, elem := 162, size := 43, inl := false, rows := [.int .u64 e0.id :: .int .i64 e0.owner :: .list 1 (e0.readers.map iC) :: (e0.obj.cells ++ [.list 1 (e0.waiting.map iC), .list 2 (e0.queue.map askC), .int .i64 nd, .nils])] })]⟩
  refine W.phR 0 0 42 20000 50 45 true rfl rfl rfl rfl (by simp) rfl (by decide) ?_
  refine W.scope rfl ?_
  refine W.seq rfl ?_
  refine W.label rfl ?_
  try refine ZT ?_
  refine W.loop rfl (ι := GoI e0 nd) (fun x => ⟨95, [(0, .ptr 0 0 0 0)], x.h⟩) (fun x => x.e.queue.length)
    ⟨e0, [], 0, .list 1 (e0.readers.map iC), .int .u64 e0.id :: .int .i64 e0.owner :: .list 1 (e0.readers.map iC) :: (e0.obj.cells ++ [.list 1 (e0.waiting.map iC), .list 2 (e0.queue.map askC), .int .i64 nd, .sl 20000 0 0 0]), _, rfl, k1, by omega, k3, by simp; omega, rfl, rfl, by simp [lk_st, lk], ses_nrm e0 nd _ 0 0 (rc_list _), .inl rfl, by simp [lk_st, lk, msgB]⟩ (AS.le_of rfl ⟨rfl, trivial⟩ (fun _ => rfl)) ?_
  intro x
  refine go_head x fun h hr hM => ?_
  obtain ⟨e, ms, g, RC, row, hh, hid, h1, h2, h3, h4, res, msg, hr0, hn0, hR0, hM0⟩ := x
  dsimp only at hr hM ⊢
  clear hr0 hn0 hR0 hM0
  have capq : e.queue.length ≤ 9223372036854775807 := by omega
  have capw : e.waiting.length ≤ 9223372036854775807 := by omega
  -- what is left when it stops here
  by_cases hw : e.waiting = []
  · cases hq : e.queue with
    | nil =>
      have w0 : ((e.waiting.length : Int) == 0) = true := by simp [hw]
      have w1 : ¬ (0 : Int) < e.queue.length := by simp [hq]
      have w2 : e.queue.length = 0 := by simp [hq]
      have gw := go_nil hq
      rw [gw] at res
      have hres : (Dir.goOn zOb e0).2 = e := by rw [res]
      have hmsg : goM e0 nd = ms := by rw [msg, goM, gw]; simp
      rw [hres, hmsg]
      repeat' (first | refine ZV ?_ | refine ZB tm no_specs ?_ | refine ZH (fun hb => ?_) (fun hb => ?_) | refine ZJ (by conv => lhs; simp [hr, w0, w1, w2, capw, capq]) ?_ | refine ZA (fun hb => ?_) (fun hb => ?_))
      all_goals (
        refine retM2_ok false [0, 20000] [0, 0] ?_
        simp [retM2, movedOK, oldOK, frqT, frqV, frqVs, frqL, frq1, expG, expB3, renB, AV.ren, renL, List.range, List.range.loop, resVs, resV, pack, List.zipWith, List.idxOf?, List.findIdx?, List.findIdx?.go, sesB, msgB, hr, hM])
    | cons p q =>
      obtain ⟨a, m⟩ := p
      obtain ⟨id, ow, rd, o, wt, qq⟩ := e
      dsimp only at hw hq hid h1 h2 h3 h4 hr capq capw
      subst hw hq
      have w3 : q.length + 1 ≤ 9223372036854775807 := by simp only [List.length_cons] at h1; omega
      obtain ⟨SD, hSD⟩ : ∃ S, S = dli (g1V a m) := ⟨_, rfl⟩
      have sp : ∀ x ∈ ([(181, ⟨3, cloneC 3 1 8⟩), (112, ⟨3, SD⟩), (213, ⟨3, demS⟩), (214, ⟨3, graS⟩), (215, ⟨3, sortS⟩)] : NL Spec), FnC Try.prog x.1 x.2.fn := by
        simp only [List.mem_cons, List.not_mem_nil, or_false]
        rintro x (rfl | rfl | rfl | rfl | rfl)
        · exact clone181_ok
        · rw [hSD]; exact dli_ok _
        · exact dem_ok
        · exact gra_ok
        · exact sort_ok
      have c1 := clnI rd (by omega)
      have c2 : SD [.sl 0 0 0 rd.length, .fn (.func 212) [] [.ptr 1 0 0 0]] [{ gen := 0, kind := 2, elem := 3, size := 1, inl := true, rows := rd.map iC }, { gen := 0, kind := 2, elem := 120, size := 2, inl := false, rows := [[.int .i64 a, .int .i64 m]] }] = some (.sl 0 1 0 (Dir.oth rd a).length, [{ gen := 1, kind := 2, elem := 3, size := 1, inl := true, rows := (Dir.oth rd a).map iC }, { gen := 0, kind := 2, elem := 120, size := 2, inl := false, rows := [[.int .i64 a, .int .i64 m]] }]) := by rw [hSD]; exact dli_eq (g1V a m) rd (by omega)
      clear hSD
      have hM2 := hM
      unfold msgB at hM2
      have n1 := Dir.asc_oth h3 a
      have ha : askC (a, m) = [.int .i64 a, .int .i64 m] := rfl
      simp only [List.map_cons, List.map_nil, ha] at hr
      repeat' (first | refine ZV ?_ | refine ZB (id := 0) tm sp ?_ | refine ZB (id := 1) tm sp ?_ | refine ZB (id := 2) tm sp ?_ | refine ZH (fun hb => ?_) (fun hb => ?_) | refine ZJ (by conv => lhs; simp [hr, w3, c1, c2]) ?_ | refine ZA (fun hb => ?_) (fun hb => ?_))
      by_cases ho : ow = -1
      · subst ho
        by_cases hm : m = 1
        · subst hm
          have gr := go_read (e := (⟨id, -1, rd, o, [], (a, 1) :: q⟩ : En)) (a := a) (q := q) rfl rfl rfl
          have hna : a ∉ Dir.oth rd a := by rw [Dir.mem_oth]; simp
          obtain ⟨ms2, hms2⟩ : ∃ ms2, ms ++ [graM nd id a 1 o] = ms2 := ⟨_, rfl⟩
          have hl2 : ms2.length = ms.length + 1 := by rw [← hms2]; simp
          have c3 : graS [.ptr 0 0 0 0] [{ gen := 0, kind := 2, elem := 162, size := 43, inl := false, rows := [.int .u64 id :: .int .i64 (-1) :: .list 1 (rd.map iC) :: (o.cells ++ [.list 1 [], .list 2 ([.int .i64 a, .int .i64 1] :: q.map askC), .int .i64 nd, .sl 1 0 0 ms.length])] }, { gen := 0, kind := 2, elem := 50, size := 45, inl := true, rows := ms.map Msg.v }] = some (.tup [], [{ gen := 0, kind := 2, elem := 162, size := 43, inl := false, rows := [.int .u64 id :: .int .i64 (-1) :: .list 1 (rd.map iC) :: (o.cells ++ [.list 1 [], .list 2 (q.map askC), .int .i64 nd, .sl 1 1 0 (ms.length + 1)])] }, { gen := 1, kind := 2, elem := 50, size := 45, inl := true, rows := ms2.map Msg.v }]) := by
            rw [← hms2]
            exact graS_eq (⟨⟨id, -1, rd, o, [], (a, 1) :: q⟩, nd, ms, a, 1, q, rfl, by dsimp only; omega, by omega⟩ : Gr)
          obtain ⟨R, hR⟩ : ∃ R, Dir.oth rd a ++ [a] = R := ⟨_, rfl⟩
          have hRl : R.length = (Dir.oth rd a).length + 1 := by rw [← hR]; simp
          have hol : (Dir.oth rd a).length ≤ rd.length := List.length_filter_le _ _
          have hRs : srt R = Dir.ins a (Dir.oth rd a) := by rw [← hR]; exact srt_ins n1 hna
          have hRm : (Dir.oth rd a).map iC ++ [[.int .i64 a]] = R.map iC := by rw [← hR]; simp [iC]
          simp only [List.length_cons] at h1 h4
          have c4 := sortS_eq R (by omega) (by omega)
          rw [hRs, hRl] at c4
          simp only [ixiB] at c4
          generalize Dir.oth rd a = N at *
          have y1 : N.length ≤ maxLen := by simp only [maxLen]; omega
          have y2 : (N.length + 1) * 8 ≤ 140737488355328 := by omega
          have y3 : N.length + 1 ≤ maxLen := by simp only [maxLen]; omega
          have y4 : N.length ≤ 9223372036854775807 := by omega
          have tN : List.take N.length (N.map iC) = N.map iC := List.take_of_length_le (by simp)
          have fN : firstRows N.length (N.map iC) = N.map iC := first_all (by simp)
          repeat' (first | refine ZV ?_ | refine ZB tm sp ?_ | refine ZH (fun hb => ?_) (fun hb => ?_) | refine ZJ (by conv => lhs; simp [hr, hM2, c3, c4, y1, y2, y3, y4, tN, m1, hRm, fN]) ?_ | refine ZA (fun hb => ?_) (fun hb => ?_))
          have hIl : (Dir.ins a N).length = N.length + 1 := by rw [← hRs, srt, List.length_mergeSort, hRl]
          rw [← hl2]
          refine ⟨⟨⟨id, -1, Dir.ins a N, o, [], q⟩, ms2, g + 1, .sl 528 (((lk h 528).getD { }).gen + 1 + 1 + 1) 0 (N.length + 1), _, _, hid, by dsimp only; omega, by simp, Dir.asc_ins n1 hna, by dsimp only; omega, by rw [res, gr], by rw [msg, goM, gr, ← hms2, List.append_assoc]; rfl, by simp [lk_st], ses_nrm (⟨id, -1, Dir.ins a N, o, [], q⟩ : En) nd _ _ _ (rc_sl _ _ _ _), .inr ⟨_, by rw [hIl], by simp [lk_st, ixiBg]⟩, by simp [lk_st, msgB]⟩, by simp, AS.le_of rfl ⟨rfl, trivial⟩ (fun _ => rfl)⟩
        · have m1' : (m == 1) = false := by simp [hm]
          by_cases hd : Dir.oth rd a = []
          · have gr := go_write (e := (⟨id, -1, rd, o, [], (a, m) :: q⟩ : En)) (a := a) (m := m) (q := q) rfl rfl rfl hm hd
            obtain ⟨ms2, hms2⟩ : ∃ ms2, ms ++ [graM nd id a m o] = ms2 := ⟨_, rfl⟩
            have hl2 : ms2.length = ms.length + 1 := by rw [← hms2]; simp
            have c3 : graS [.ptr 0 0 0 0] [{ gen := 0, kind := 2, elem := 162, size := 43, inl := false, rows := [.int .u64 id :: .int .i64 (-1) :: .list 1 (rd.map iC) :: (o.cells ++ [.list 1 [], .list 2 ([.int .i64 a, .int .i64 m] :: q.map askC), .int .i64 nd, .sl 1 0 0 ms.length])] }, { gen := 0, kind := 2, elem := 50, size := 45, inl := true, rows := ms.map Msg.v }] = some (.tup [], [{ gen := 0, kind := 2, elem := 162, size := 43, inl := false, rows := [.int .u64 id :: .int .i64 (-1) :: .list 1 (rd.map iC) :: (o.cells ++ [.list 1 [], .list 2 (q.map askC), .int .i64 nd, .sl 1 1 0 (ms.length + 1)])] }, { gen := 1, kind := 2, elem := 50, size := 45, inl := true, rows := ms2.map Msg.v }]) := by
              rw [← hms2]
              exact graS_eq (⟨⟨id, -1, rd, o, [], (a, m) :: q⟩, nd, ms, a, m, q, rfl, by dsimp only; omega, by omega⟩ : Gr)
            simp only [List.length_cons] at h1 h4
            rw [hd]
            repeat' (first | refine ZV ?_ | refine ZB tm sp ?_ | refine ZH (fun hb => ?_) (fun hb => ?_) | refine ZJ (by conv => lhs; simp [hr, hM2, c3, m1', m1]) ?_ | refine ZA (fun hb => ?_) (fun hb => ?_))
            rw [← hl2]
            refine ⟨⟨⟨id, a, [], zOb, [], q⟩, ms2, g + 1, .list 1 ([].map iC), _, _, hid, by dsimp only; simp only [List.length_nil]; omega, by simp, List.Pairwise.nil, by dsimp only; omega, by rw [res, gr], by rw [msg, goM, gr, ← hms2, List.append_assoc]; rfl, by simp [lk_st]; rfl, ses_nrm0 id a nd [] q (g + 1) ms2.length, .inl rfl, by simp [lk_st, msgB]⟩, by simp, AS.le_of rfl ⟨rfl, trivial⟩ (fun _ => rfl)⟩
          · have gd := go_dem (e := (⟨id, -1, rd, o, [], (a, m) :: q⟩ : En)) (a := a) (m := m) (q := q) rfl rfl rfl hm hd
            have hol : (Dir.oth rd a).length ≤ rd.length := List.length_filter_le _ _
            have hpos : 0 < (Dir.oth rd a).length := List.length_pos_iff.2 hd
            rw [gd] at res
            dsimp only at res
            have hres : (Dir.goOn zOb e0).2 = ⟨id, -1, rd, o, Dir.oth rd a, (a, m) :: q⟩ := by rw [res]
            have hmsg : goM e0 nd = ms ++ (Dir.oth rd a).map (revM nd id) := by rw [msg, goM, gd, List.map_map]; rfl
            rw [hres, hmsg]
            clear gd res msg hres hmsg
            generalize Dir.oth rd a = N at *
            obtain ⟨ms2, hms2⟩ : ∃ ms2, ms ++ N.map (revM nd id) = ms2 := ⟨_, rfl⟩
            have hl2 : ms2.length = ms.length + N.length := by rw [← hms2]; simp
            rw [hms2]
            have c3 : demS [.ptr 0 0 0 0, .sl 1 0 0 N.length] [{ gen := 0, kind := 2, elem := 162, size := 43, inl := false, rows := [.int .u64 id :: .int .i64 (-1) :: .list 1 (rd.map iC) :: (o.cells ++ [.list 1 [], .list 2 ([.int .i64 a, .int .i64 m] :: q.map askC), .int .i64 nd, .sl 2 0 0 ms.length])] }, { gen := 0, kind := 2, elem := 3, size := 1, inl := true, rows := N.map iC }, { gen := 0, kind := 2, elem := 50, size := 45, inl := true, rows := ms.map Msg.v }] = some (.tup [], [{ gen := 0, kind := 2, elem := 162, size := 43, inl := false, rows := [.int .u64 id :: .int .i64 (-1) :: .list 1 (rd.map iC) :: (o.cells ++ [.list 1 (N.map iC), .list 2 ([.int .i64 a, .int .i64 m] :: q.map askC), .int .i64 nd, .sl 2 1 0 (ms.length + N.length)])] }, { gen := 0, kind := 1, elem := 3, size := 1, inl := true, rows := N.map iC }, { gen := 1, kind := 2, elem := 50, size := 45, inl := true, rows := ms2.map Msg.v }]) := by
              rw [← hms2]
              exact demS_eq (⟨⟨id, -1, rd, o, [], (a, m) :: q⟩, nd, ms, N, hpos, by simp only [List.length_cons] at h1; omega, by omega⟩ : De)
            have p1 : (0 : Int) < N.length := by omega
            have p2 : N.length ≤ 9223372036854775807 := by simp only [List.length_cons] at h1; omega
            have p3 : ¬ N.length = 0 := by omega
            repeat' (first | refine ZV ?_ | refine ZB tm sp ?_ | refine ZH (fun hb => ?_) (fun hb => ?_) | refine ZJ (by conv => lhs; simp [hr, hM2, c3, m1', p1, p2, p3, hpos]) ?_ | refine ZA (fun hb => ?_) (fun hb => ?_))
            all_goals (
              refine retM2_ok false [0, 20000] [0, 0] ?_
              simp [retM2, movedOK, oldOK, frqT, frqV, frqVs, frqL, frq1, expG, expB3, renB, AV.ren, renL, List.range, List.range.loop, resVs, resV, pack, List.zipWith, List.idxOf?, List.findIdx?, List.findIdx?.go, sesB, msgB, lk_st, hl2, ha])
      · have go := go_own (e := (⟨id, ow, rd, o, [], (a, m) :: q⟩ : En)) (a := a) (m := m) (q := q) rfl rfl ho
        rw [go] at res
        have hres : (Dir.goOn zOb e0).2 = ⟨id, ow, rd, o, [ow], (a, m) :: q⟩ := by rw [res]
        have hmsg : goM e0 nd = ms ++ [revM nd id ow] := by rw [msg, goM, go]; rfl
        rw [hres, hmsg]
        obtain ⟨ms2, hms2⟩ : ∃ ms2, ms ++ [revM nd id ow] = ms2 := ⟨_, rfl⟩
        have hl2 : ms2.length = ms.length + 1 := by rw [← hms2]; simp
        rw [hms2]
        have c3 : demS [.ptr 0 0 0 0, .sl 1 0 0 1] [{ gen := 0, kind := 2, elem := 162, size := 43, inl := false, rows := [.int .u64 id :: .int .i64 ow :: .list 1 (rd.map iC) :: (o.cells ++ [.list 1 [], .list 2 ([.int .i64 a, .int .i64 m] :: q.map askC), .int .i64 nd, .sl 2 0 0 ms.length])] }, { gen := 0, kind := 2, elem := 3, size := 1, inl := true, rows := [[.int .i64 ow]] }, { gen := 0, kind := 2, elem := 50, size := 45, inl := true, rows := ms.map Msg.v }] = some (.tup [], [{ gen := 0, kind := 2, elem := 162, size := 43, inl := false, rows := [.int .u64 id :: .int .i64 ow :: .list 1 (rd.map iC) :: (o.cells ++ [.list 1 [[.int .i64 ow]], .list 2 ([.int .i64 a, .int .i64 m] :: q.map askC), .int .i64 nd, .sl 2 1 0 (ms.length + 1)])] }, { gen := 0, kind := 1, elem := 3, size := 1, inl := true, rows := [[.int .i64 ow]] }, { gen := 1, kind := 2, elem := 50, size := 45, inl := true, rows := ms2.map Msg.v }]) := by
          rw [← hms2]
          exact demS_eq (⟨⟨id, ow, rd, o, [], (a, m) :: q⟩, nd, ms, [ow], by simp, by simp, by omega⟩ : De)
        have ho2 : (ow != -1) = true := by simp [ho]
        repeat' (first | refine ZV ?_ | refine ZB tm sp ?_ | refine ZH (fun hb => ?_) (fun hb => ?_) | refine ZJ (by conv => lhs; simp [hr, hM2, c3, ho2, m1]) ?_ | refine ZA (fun hb => ?_) (fun hb => ?_))
        refine retM2_ok false [0, 20000] [0, 0] ?_
        simp [retM2, movedOK, oldOK, frqT, frqV, frqVs, frqL, frq1, expG, expB3, renB, AV.ren, renL, List.range, List.range.loop, resVs, resV, pack, List.zipWith, List.idxOf?, List.findIdx?, List.findIdx?.go, sesB, msgB, lk_st, hl2, iC, askC]
  · have w0 : ((e.waiting.length : Int) == 0) = false := by
      have := List.length_pos_iff.2 hw
      simp; omega
    have gw := go_wait hw
    rw [gw] at res
    have hres : (Dir.goOn zOb e0).2 = e := by rw [res]
    have hmsg : goM e0 nd = ms := by rw [msg, goM, gw]; simp
    rw [hres, hmsg]
    repeat' (first | refine ZV ?_ | refine ZB tm no_specs ?_ | refine ZH (fun hb => ?_) (fun hb => ?_) | refine ZJ (by conv => lhs; simp [hr, w0, capw]) ?_ | refine ZA (fun hb => ?_) (fun hb => ?_))
    refine retM2_ok false [0, 20000] [0, 0] ?_
    simp [retM2, movedOK, oldOK, frqT, frqV, frqVs, frqL, frq1, expG, expB3, renB, AV.ren, renL, List.range, List.range.loop, resVs, resV, pack, List.zipWith, List.idxOf?, List.findIdx?, List.findIdx?.go, sesB, msgB, hr, hM]
end Go.Abs.Na
namespace Go.Abs.Na
open Go Go.Proofs Go.Abs
set_option maxRecDepth 100000
set_option maxHeartbeats 4000000
set_option linter.unusedSimpArgs false
set_option linter.unusedVariables false
attribute [local simp] instA slice3A slice3C
attribute [-simp] mkv
attribute [local simp] mkv_hd hdA_cons hdA_ob hdA_ob'
theorem ovlB176 : ovlB Try.prog 218 = true := by kernel_rfl
theorem ovlT176 : ovlT Try.prog 218 = some (93, 41) := by kernel_rfl
theorem ins_grow176 {α : Type} {l : List α} {n i : Nat} {t z : α} (hn : l.length = n) (hi : i ≤ l.length) :
    List.take (i + 1) (List.take i l ++ t :: List.replicate (n - i) z) ++ (List.take (n - i) (List.take (n - i) (List.drop i l)) ++ List.drop (i + 1 + (n - i)) (List.take i l ++ t :: List.replicate (n - i) z)) = List.take i l ++ t :: List.drop i l := by
  subst hn
  have h1 : (List.take i l).length = i := by rw [List.length_take]; omega
  have h2 : (List.drop i l).length = l.length - i := List.length_drop
  generalize List.take i l = A at h1 ⊢
  generalize List.drop i l = B at h2 ⊢
  subst h1
  rw [List.take_append, List.drop_append, List.take_of_length_le (Nat.le_succ _), show A.length + 1 - A.length = 1 from by omega, List.take_succ_cons, List.take_zero,
    List.drop_of_length_le (by omega), List.nil_append, show A.length + 1 + (l.length - A.length) - A.length = (l.length - A.length) + 1 from by omega, List.drop_succ_cons, List.drop_of_length_le (by simp),
    List.append_nil, List.take_take, Nat.min_self, List.take_of_length_le (by omega), List.append_assoc]
  rfl
theorem ins_place176 {α : Type} {l : List α} {i : Nat} {X : List α} (hi : i ≤ l.length) : List.take i (List.take (i + 1) l ++ List.drop i l) ++ X = List.take i l ++ X := by
  congr 1
  rw [List.take_append, List.take_take, Nat.min_eq_left (Nat.le_succ i), show i - (List.take (i + 1) l).length = 0 from by rw [List.length_take]; omega, List.take_zero, List.append_nil]
theorem insert176_ok : FnC Try.prog 176 (insertC 117 41 552) := by
  refine FnC.ofV 176 (fn := Try.f176) Try.func176 rfl (by kernel_rfl) fun args B r B' hS => ?_
  unfold insertC at hS
  split at hS
  · rename_i len i b c
    split at hS
    · rename_i hc
      obtain ⟨hb, hcc, rfl, k1, k2, k3, k4, k5⟩ := hc
      simp only [Option.some.injEq, Prod.mk.injEq] at hS
      obtain ⟨rfl, rfl⟩ := hS
      rw [okB_eq hb, okB_eq hcc]
      generalize b.rows = l at k2 k3 k5 ⊢
      generalize c.rows = cr at k1 ⊢
      obtain ⟨t, rfl⟩ : ∃ t, cr = [t] := List.length_eq_one_iff.1 k1
      obtain ⟨i, rfl⟩ : ∃ n : Nat, i = n := ⟨i.toNat, by omega⟩
      have hi : i ≤ l.length := by omega
      simp only [Int.toNat_natCast]
      refine ⟨by simp, ?_⟩
      change V _ (RetM _ _ 2 _ _) _ _ ⟨95, [(0, .sl 0 0 0 l.length), (1, .int .i64 (i : Nat)), (2, .sl 1 0 0 1)], [(0, { gen := 0, kind := 2, elem := 117, size := 41, inl := true, rows := l }), (1, { gen := 0, kind := 2, elem := 117, size := 41, inl := true, rows := [t] })]⟩
      have c1 : l.length + 1 ≤ 9223372036854775807 := by omega
      have c2 : l.length ≤ 9223372036854775807 := by omega
      have c3 : l.length * 552 ≤ 140737488355328 := by omega
      have c4 : (l.length + 1) * 552 ≤ 140737488355328 := k2
      have m1' : (1 : Nat) ≤ maxLen := by decide
      try simp only [Nat.mul_one] at c3 c4
      by_cases hin : i = l.length
      · subst hin
        clear hi k3 k4 k5 k2
        repeat (first | refine NV.seq ?_ | refine NV.blk ?_ | refine V.seq rfl ?_ | refine V.block rfl ?_ | refine V.skip rfl ?_ | refine V.ret rfl ?_ | refine NV.nil ?_ | refine NV.loop ?_ | refine V.exit rfl ?_ | refine XV.seq ?_ | refine XV.loop ?_ | refine XV.hit ?_ | refine XV.pass (by decide) ?_ | refine V.condT rfl (by rfl) ?_ | refine V.condF rfl (by rfl) ?_ | refine V.region tm no_specs rfl (by conv => lhs; simp [c1, c2, c3, c4, maxLen, m1']) fun _ => ?_ | refine V.regionD tm no_specs rfl (by conv => lhs; simp [c1, c2, c3, c4, maxLen, m1']) (by conv => lhs; simp) (by kernel_rfl) fun _ => ?_)
        refine retM2_ok false [0, 1] [1, 0] ?_
        simp [retM2, movedOK, oldOK, frqT, frqV, frqVs, frqL, frq1, expG, expB3, renB, AV.ren, renL, List.range, List.range.loop, resVs, resV, pack, List.zipWith, List.idxOf?, List.findIdx?, List.findIdx?.go, rowB]
      · have hlt : i < l.length := by omega
        have e1 : ((i : Int) == (l.length : Int)) = false := by simpa using fun h => hin (by omega)
        refine V.caps (t := 0) rfl rfl rfl fun cap hc1 hc2 => ?_
        have hic : i ≤ cap := by omega
        have hwi : IntKind.i64.wrap ((i : Int) + 1) = ((i + 1 : Nat) : Int) := by rw [show (i : Int) + 1 = ((i + 1 : Nat) : Int) from by omega]; exact w64 (by omega) (by omega)
        have hw : IntKind.i64.wrap ((l.length : Int) + 1) = (l.length : Int) + 1 := w64 (by omega) (by omega)
        have hw2 : IntKind.i64.wrap ((l.length : Int) + 1 - i) = ((l.length + 1 - i : Nat) : Int) := by rw [show (l.length : Int) + 1 - i = ((l.length + 1 - i : Nat) : Int) from by omega]; exact w64 (by omega) (by omega)
        by_cases hcap : cap < l.length + 1
        · have hcap' : (cap : Int) < l.length + 1 := by omega
          have n1 : i + (l.length + 1 - i) = l.length + 1 := by omega
          have n3 : i ≤ l.length + 1 := by omega
          have n4 : 0 < l.length + 1 - i := by omega
          have n5 : min i l.length = i := by omega
          have n6 : List.take (l.length + 1 - i) [t] = [t] := List.take_of_length_le (by simp; omega)
          have n7 : min (l.length + 1 - i) 1 = 1 := by omega
          have n8 : ∀ z, List.drop (i + 1) (List.take i l ++ List.replicate (l.length + 1 - i) z) = List.replicate (l.length - i) z := fun z => by
            rw [List.drop_append, List.drop_of_length_le (by simp; omega)]
            simp only [List.length_take, n5, List.nil_append, List.drop_replicate]
            congr 1
            omega
          have n9 : l.length ≤ i + (l.length - i) := by omega
          have n10 : (0 : Int) ≤ (i : Int) + 1 := by omega
          clear k3 k4 k5 k2 hin
          repeat (first | refine NV.seq ?_ | refine NV.blk ?_ | refine V.seq rfl ?_ | refine V.block rfl ?_ | refine V.skip rfl ?_ | refine V.ret rfl ?_ | refine NV.nil ?_ | refine NV.loop ?_ | refine V.exit rfl ?_ | refine XV.seq ?_ | refine XV.loop ?_ | refine XV.hit ?_ | refine XV.pass (by decide) ?_ | refine V.condT rfl (by rfl) ?_ | refine V.condF rfl (by rfl) ?_ | refine V.region tm no_specs rfl (by conv => lhs; simp [c1, c2, c3, c4, maxLen, e1, hi, hc1, hic, hcap, hcap', hw, hw2, n1, n3, n4, n5, n6, n7, n8, hwi, n9, n10]) fun _ => ?_ | refine V.regionD tm no_specs rfl (by conv => lhs; simp [c1, c2, c3, c4, maxLen, e1, hi, hc1, hic, hcap, hcap', hw, hw2, n1, n3, n4, n5, n6, n7, n8, hwi, n9, n10]) (by conv => lhs; simp) (by kernel_rfl) fun _ => ?_)
          refine retM2_ok false [656, 1] [1, 0] ?_
          simp [retM2, movedOK, oldOK, frqT, frqV, frqVs, frqL, frq1, expG, expB3, renB, AV.ren, renL, List.range, List.range.loop, resVs, resV, pack, List.zipWith, List.idxOf?, List.findIdx?, List.findIdx?.go, rowB]
          exact ins_grow176 (by simp) (by simpa using hi)
        · have hcap' : ¬ (cap : Int) < l.length + 1 := by omega
          have hcap2 : l.length + 1 ≤ cap := by omega
          have n3 : i ≤ l.length + 1 := by omega
          have n9 : l.length ≤ i + (l.length - i) := by omega
          have n10 : (0 : Int) ≤ (i : Int) + 1 := by omega
          have hw3 : (0 : Int) ≤ (l.length : Int) + 1 := by omega
          have n12 : i + 1 ≤ l.length := hlt
          have n11 : min (l.length - i) (l.length + 1 - i) = l.length - i := by omega
          have n6 : List.take (l.length + 1 - i) [t] = [t] := List.take_of_length_le (by simp; omega)
          have n7 : min (l.length + 1 - i) 1 = 1 := by omega
          have n13 : List.take (l.length - i) (List.take (l.length - i) (List.drop i l)) = List.drop i l := by
            rw [List.take_take, Nat.min_self, List.take_of_length_le (by simp)]
          have n14 : List.drop (i + 1 + (l.length - i)) l = [] := List.drop_of_length_le (by omega)
          have n15 : i ≤ i + 1 + (l.length - i) := by omega
          clear k3 k4 k5 k2 hin
          repeat (first | refine NV.seq ?_ | refine NV.blk ?_ | refine V.seq rfl ?_ | refine V.block rfl ?_ | refine V.skip rfl ?_ | refine NV.nil ?_ | refine NV.loop ?_ | refine V.exit rfl ?_ | refine XV.seq ?_ | refine XV.loop ?_ | refine XV.hit ?_ | refine XV.pass (by decide) ?_ | refine V.condT rfl (by rfl) ?_ | refine V.condF rfl (by rfl) ?_ | refine V.region tm no_specs rfl (by conv => lhs; simp [c1, c2, c3, c4, maxLen, e1, hi, hc1, hic, hcap, hcap', hw, hw2, n3, hwi, n9, n10, hcap2, hw3, ovlB176, ovlT176, n11, n12, n6, n7, n13, n14, n15]) fun _ => ?_ | refine V.regionD tm no_specs rfl (by conv => lhs; simp [c1, c2, c3, c4, maxLen, e1, hi, hc1, hic, hcap, hcap', hw, hw2, n3, hwi, n9, n10, hcap2, hw3, ovlB176, ovlT176, n11, n12, n6, n7, n13, n14, n15]) (by conv => lhs; simp) (by kernel_rfl) fun _ => ?_)
          refine V.uncap (t := 6) rfl ?_
          repeat (first | refine NV.seq ?_ | refine NV.blk ?_ | refine V.seq rfl ?_ | refine V.block rfl ?_ | refine V.skip rfl ?_ | refine V.ret rfl ?_ | refine NV.nil ?_ | refine NV.loop ?_ | refine V.exit rfl ?_ | refine XV.seq ?_ | refine XV.loop ?_ | refine XV.hit ?_ | refine XV.pass (by decide) ?_ | refine V.condT rfl (by rfl) ?_ | refine V.condF rfl (by rfl) ?_ | refine V.region tm no_specs rfl (by conv => lhs; simp) fun _ => ?_ | refine V.regionD tm no_specs rfl (by conv => lhs; simp) (by conv => lhs; simp) (by kernel_rfl) fun _ => ?_)
          refine retM2_ok false [0, 1] [1, 0] ?_
          simp [retM2, movedOK, oldOK, frqT, frqV, frqVs, frqL, frq1, expG, expB3, renB, AV.ren, renL, List.range, List.range.loop, resVs, resV, pack, List.zipWith, List.idxOf?, List.findIdx?, List.findIdx?.go, rowB]
          simpa using ins_place176 (l := l) (i := i) (X := []) hi
    · cases hS
  · cases hS
noncomputable def sr1R (t : En) (y : Int) : AV := .int .i64 (cmpI t.id y)
noncomputable def sr1S : SpecFn := mkS (fun p : En × Int => [.agg (enC p.1), .int .u64 p.2]) fun p => (sr1R p.1 p.2, [])
theorem sr1_eq (t1 t2 : Int) (tr : List Int) (to : Ob) (tw : List Int) (tq : List (Int × Int)) (y : Int) : sr1S [.agg (.int .u64 t1 :: .int .i64 t2 :: .list 1 (tr.map iC) :: (to.cells ++ [.list 1 (tw.map iC), .list 2 (tq.map askC)])), .int .u64 y] [] = some (sr1R ((⟨t1, t2, tr, to, tw, tq⟩ : En)) (y), []) :=
  mkS_eq (enc := fun p : En × Int => [.agg (enC p.1), .int .u64 p.2]) (res := fun p => (sr1R p.1 p.2, [])) (fun x y h => by
    obtain ⟨a0, a1⟩ := x
    obtain ⟨b0, b1⟩ := y
    obtain ⟨h0, h⟩ := List.cons.inj h
    obtain ⟨h1, h⟩ := List.cons.inj h
    have e0 := enC_inj (AVg h0)
    subst e0
    have e1 := AVi h1
    subst e1
    rfl) ((⟨t1, t2, tr, to, tw, tq⟩ : En), y)
noncomputable def sr1_ok_specs : NL Spec := [(154, ⟨1, cmp64S⟩)]
theorem sr1_ok_specs_ok : ∀ p ∈ sr1_ok_specs, FnC Try.prog p.1 p.2.fn := by
  simp only [sr1_ok_specs, List.mem_cons, List.not_mem_nil, or_false]
  rintro p rfl
  · exact cmp64_ok
attribute [local simp] sr1_ok_specs cmp64_eq
theorem sr1_ok : FnC Try.prog 217 sr1S := by
  refine FnC.walk 217 (fn := Try.f217) Try.func217 rfl (by kernel_rfl) fun p => ?_
  obtain ⟨⟨t1, t2, tr, to, tw, tq⟩, y⟩ := p
  change W _ (Ret _ _ (sr1R ((⟨t1, t2, tr, to, tw, tq⟩ : En)) (y)) []) _ _ ⟨9, [(0, .agg (.int .u64 t1 :: .int .i64 t2 :: .list 1 (tr.map iC) :: (to.cells ++ [.list 1 (tw.map iC), .list 2 (tq.map askC)]))), (1, .int .u64 y)], []⟩
  repeat' (first | refine ZV ?_ | refine ZB tm sr1_ok_specs_ok ?_ | refine ZH (fun hb => ?_) (fun hb => ?_) | refine ZJ (by conv => lhs; simp [cmp64R]) ?_ | refine ZA (fun hb => ?_) (fun hb => ?_))
  all_goals (first | refine Ret.dataE rfl (by conv => lhs; simp) (by conv => lhs; simp) (by first | rfl | simp [inlT, inlV]) ?_ | refine RetNf.dataE rfl (by conv => lhs; simp) (by conv => lhs; simp) (by first | rfl | simp [inlT, inlV]) ?_)
  all_goals (first | rfl | (simp [sr1R]; done) | (simp_all [sr1R]; done) | (simp_all [sr1R]; omega))
theorem AVel {n : Nat} {a b : {l : List En // l.length ≤ 9001}} (h : AV.list n (a.1.map enC) = AV.list n (b.1.map enC)) : a = b := Subtype.ext (enCs_inj (AVl h))
def bsD (l : List En) (id : Int) : Nat := bsF (fun k => match l[k]? with | some t => decide (t.id < id) | none => false) 0 l.length
def hasD (l : List En) (k : Nat) (id : Int) : Bool := match l[k]? with | some t => decide (t.id = id) | none => false
noncomputable def bsdR (l : {l : List En // l.length ≤ 9001}) (id : Int) : AV := .tup [.int .i64 (bsD l.1 id : Nat), .bool (hasD l.1 (bsD l.1 id) id)]
noncomputable def bsdS : SpecFn := mkS (fun p : {l : List En // l.length ≤ 9001} × Int => [.list 41 (p.1.1.map enC), .int .u64 p.2, .fn (.func 217) [] []]) fun p => (bsdR p.1 p.2, [])
theorem bsd_eq (l : List En) (lh : l.length ≤ 9001) (id : Int) : bsdS [.list 41 (l.map enC), .int .u64 id, .fn (.func 217) [] []] [] = some (bsdR ((⟨l, lh⟩ : {l : List En // l.length ≤ 9001})) (id), []) :=
  mkS_eq (enc := fun p : {l : List En // l.length ≤ 9001} × Int => [.list 41 (p.1.1.map enC), .int .u64 p.2, .fn (.func 217) [] []]) (res := fun p => (bsdR p.1 p.2, [])) (fun x y h => by
    obtain ⟨a0, a1⟩ := x
    obtain ⟨b0, b1⟩ := y
    obtain ⟨h0, h⟩ := List.cons.inj h
    obtain ⟨h1, h⟩ := List.cons.inj h
    obtain ⟨h2, h⟩ := List.cons.inj h
    have e0 := AVel h0
    subst e0
    have e1 := AVi h1
    subst e1
    rfl) ((⟨l, lh⟩ : {l : List En // l.length ≤ 9001}), id)
noncomputable def bsd_ok_specs : NL Spec := [(217, ⟨1, sr1S⟩)]
theorem bsd_ok_specs_ok : ∀ p ∈ bsd_ok_specs, FnC Try.prog p.1 p.2.fn := by
  simp only [bsd_ok_specs, List.mem_cons, List.not_mem_nil, or_false]
  rintro p rfl
  · exact sr1_ok
attribute [local simp] bsd_ok_specs sr1_eq
theorem bsd_ok : FnC Try.prog 216 bsdS := by
  refine FnC.walk 216 (fn := Try.f216) Try.func216 rfl (by kernel_rfl) fun p => ?_
  obtain ⟨⟨l, lh⟩, id⟩ := p
  change W _ (Ret _ _ (bsdR ((⟨l, lh⟩ : {l : List En // l.length ≤ 9001})) (id)) []) _ _ ⟨49, [(0, .list 41 (l.map enC)), (1, .int .u64 id), (2, .fn (.func 217) [] [])], []⟩
  repeat' (first | refine ZV ?_ | refine ZB tm bsd_ok_specs_ok ?_ | refine ZH (fun hb => ?_) (fun hb => ?_) | refine ZJ (by conv => lhs; simp [lh]) ?_ | refine ZA (fun hb => ?_) (fun hb => ?_))
  have cap : l.length ≤ 9223372036854775807 := by omega
  obtain ⟨B, hE⟩ : ∃ B, bsD l id = B := ⟨_, rfl⟩
  have hB := hE
  unfold bsD at hB
  generalize hC : (fun (k : Nat) => match l[k]? with | some (t : En) => decide (t.id < id) | none => false) = C at hB
  refine W.loop rfl (ι := { q : Nat × Nat × NL ABlk // q.1 ≤ q.2.1 ∧ q.2.1 ≤ l.length ∧ bsF C q.1 q.2.1 = B })
    (fun q => ⟨49, [(0, .list 41 (l.map enC)), (1, .int .u64 id), (2, .fn (.func 217) [] []), (8, .int .i64 l.length), (9, .int .i64 (q.1.1 : Nat)), (10, .int .i64 (q.1.2.1 : Nat))], q.1.2.2⟩) (fun q => q.1.2.1 - q.1.1)
    ⟨(0, l.length, []), by simp, by simp, hB⟩ (AS.le_of rfl ⟨rfl, rfl, rfl, rfl, rfl, rfl, trivial⟩ (fun _ => rfl)) ?_
  rintro ⟨⟨lo, hi, h⟩, h1, h2, h3⟩
  dsimp only at h1 h2 h3 ⊢
  by_cases hlt : lo < hi
  · rw [bsF_lt hlt] at h3
    have q1 : (lo : Int) < hi := by omega
    obtain ⟨m, hm⟩ : ∃ m, (lo + hi) / 2 = m := ⟨_, rfl⟩
    rw [hm] at h3
    obtain ⟨t, ht⟩ := get_lt (l := l) (i := m) (by omega)
    have hg : (l.map enC)[m]? = some (enC t) := by rw [List.getElem?_map, ht]; rfl
    have q2 : ¬ l.length ≤ m := by omega
    have hw : IntKind.i64.wrap ((m : Int) + 1) = ((m + 1 : Nat) : Int) := w64 (by omega) (by omega)
    have hcm : C m = decide (t.id < id) := by rw [← hC]; simp only [ht]
    rw [hcm] at h3
    clear hlt
    have hh := half (lo := lo) (hi := hi) (by omega)
    rw [hm] at hh
    obtain ⟨a1, a2, r, o, w, q⟩ := t
    simp only [enC] at hg
    repeat' (first | refine ZV ?_ | refine ZB tm bsd_ok_specs_ok ?_ | refine ZH (fun hb => ?_) (fun hb => ?_) | refine ZJ (by conv => lhs; simp [q1, hh, q2, hg, sr1R, hw]) ?_ | refine ZA (fun hb => ?_) (fun hb => ?_))
    · have hb' : a1 < id := by simpa using hb
      rw [if_pos (by simpa using hb')] at h3
      exact ⟨⟨(m + 1, hi, _), by dsimp only; omega, h2, h3⟩, by dsimp only; omega, AS.le_of rfl ⟨rfl, rfl, rfl, rfl, rfl, rfl, trivial⟩ (fun _ => rfl)⟩
    · have hb' : ¬ a1 < id := by simpa using hb
      rw [if_neg (by simpa using hb')] at h3
      exact ⟨⟨(lo, m, _), by dsimp only; omega, by dsimp only; omega, h3⟩, by dsimp only; omega, AS.le_of rfl ⟨rfl, rfl, rfl, rfl, rfl, rfl, trivial⟩ (fun _ => rfl)⟩
  · rw [bsF_ge hlt] at h3
    subst h3
    have q1 : ¬ (lo : Int) < hi := by omega
    have e1 : lo = hi := by omega
    subst e1
    by_cases hz : lo < l.length
    · obtain ⟨t, ht⟩ := get_lt (l := l) (i := lo) (by omega)
      have hg : (l.map enC)[lo]? = some (enC t) := by rw [List.getElem?_map, ht]; rfl
      have q2 : ¬ l.length ≤ lo := by omega
      have q3 : (lo : Int) < l.length := by omega
      obtain ⟨a1, a2, r, o, w, q⟩ := t
      simp only [enC] at hg
      clear hlt hz
      repeat' (first | refine ZV ?_ | refine ZB tm bsd_ok_specs_ok ?_ | refine ZH (fun hb => ?_) (fun hb => ?_) | refine ZJ (by conv => lhs; simp [q1, q2, q3, hg, sr1R]) ?_ | refine ZA (fun hb => ?_) (fun hb => ?_))
      all_goals (first | refine Ret.dataE rfl (by conv => lhs; simp) (by conv => lhs; simp) (by first | rfl | simp [inlT, inlV]) ?_ | refine RetNf.dataE rfl (by conv => lhs; simp) (by conv => lhs; simp) (by first | rfl | simp [inlT, inlV]) ?_)
      all_goals (first | rfl | (simp [bsdR, hE, hasD, ht]; done) | (simp_all [bsdR, hE, hasD, ht]; done) | (simp_all [bsdR, hE, hasD, ht]; omega))
    · have q3 : ¬ (lo : Int) < l.length := by omega
      have q4 : l[lo]? = none := by simp; omega
      clear hlt hz
      repeat' (first | refine ZV ?_ | refine ZB tm bsd_ok_specs_ok ?_ | refine ZH (fun hb => ?_) (fun hb => ?_) | refine ZJ (by conv => lhs; simp [q1, q3]) ?_ | refine ZA (fun hb => ?_) (fun hb => ?_))
      all_goals (first | refine Ret.dataE rfl (by conv => lhs; simp) (by conv => lhs; simp) (by first | rfl | simp [inlT, inlV]) ?_ | refine RetNf.dataE rfl (by conv => lhs; simp) (by conv => lhs; simp) (by first | rfl | simp [inlT, inlV]) ?_)
      all_goals (first | rfl | (simp [bsdR, hE, hasD, q4]; done) | (simp_all [bsdR, hE, hasD, q4]; done) | (simp_all [bsdR, hE, hasD, q4]; omega))
noncomputable def seaR (l : {l : List En // l.length ≤ 9001}) (id : Int) : AV := .tup [.int .i64 (bsD l.1 id : Nat), .bool (hasD l.1 (bsD l.1 id) id)]
noncomputable def seaS : SpecFn := mkS (fun p : {l : List En // l.length ≤ 9001} × Int => [.list 41 (p.1.1.map enC), .int .u64 p.2]) fun p => (seaR p.1 p.2, [])
theorem sea_eq (l : List En) (lh : l.length ≤ 9001) (id : Int) : seaS [.list 41 (l.map enC), .int .u64 id] [] = some (seaR ((⟨l, lh⟩ : {l : List En // l.length ≤ 9001})) (id), []) :=
  mkS_eq (enc := fun p : {l : List En // l.length ≤ 9001} × Int => [.list 41 (p.1.1.map enC), .int .u64 p.2]) (res := fun p => (seaR p.1 p.2, [])) (fun x y h => by
    obtain ⟨a0, a1⟩ := x
    obtain ⟨b0, b1⟩ := y
    obtain ⟨h0, h⟩ := List.cons.inj h
    obtain ⟨h1, h⟩ := List.cons.inj h
    have e0 := AVel h0
    subst e0
    have e1 := AVi h1
    subst e1
    rfl) ((⟨l, lh⟩ : {l : List En // l.length ≤ 9001}), id)
noncomputable def sea_ok_specs : NL Spec := [(216, ⟨0, bsdS⟩), (217, ⟨1, sr1S⟩)]
theorem sea_ok_specs_ok : ∀ p ∈ sea_ok_specs, FnC Try.prog p.1 p.2.fn := by
  simp only [sea_ok_specs, List.mem_cons, List.not_mem_nil, or_false]
  rintro p (rfl | rfl)
  · exact bsd_ok
  · exact sr1_ok
attribute [local simp] sea_ok_specs bsd_eq sr1_eq
theorem sea_ok : FnC Try.prog 175 seaS := by
  refine FnC.walk 175 (fn := Try.f175) Try.func175 rfl (by kernel_rfl) fun p => ?_
  obtain ⟨⟨l, lh⟩, id⟩ := p
  change W _ (Ret _ _ (seaR ((⟨l, lh⟩ : {l : List En // l.length ≤ 9001})) (id)) []) _ _ ⟨11, [(0, .list 41 (l.map enC)), (1, .int .u64 id)], []⟩
  have cb := bsd_eq l lh id
  repeat' (first | refine ZV ?_ | refine ZB tm sea_ok_specs_ok ?_ | refine ZH (fun hb => ?_) (fun hb => ?_) | refine ZJ (by conv => lhs; simp [cb, bsdR]) ?_ | refine ZA (fun hb => ?_) (fun hb => ?_))
  all_goals (first | refine Ret.dataE rfl (by conv => lhs; simp) (by conv => lhs; simp) (by first | rfl | simp [inlT, inlV]) ?_ | refine RetNf.dataE rfl (by conv => lhs; simp) (by conv => lhs; simp) (by first | rfl | simp [inlT, inlV]) ?_)
  all_goals (first | rfl | (simp [seaR]; done) | (simp_all [seaR]; done) | (simp_all [seaR]; omega))
/-- An entry put in its place. -/
def putD (e : En) (l : List En) : List En := if hasD l (bsD l e.id) e.id then l.set (bsD l e.id) e else l.take (bsD l e.id) ++ e :: l.drop (bsD l e.id)
theorem bsF_bd (c : Nat → Bool) : ∀ (d lo hi : Nat), hi - lo = d → lo ≤ hi → lo ≤ bsF c lo hi ∧ bsF c lo hi ≤ hi := by
  intro d
  induction d using Nat.strongRecOn with
  | ind d ih =>
    intro lo hi hd hl
    by_cases h : lo < hi
    · rw [bsF_lt h]
      split
      · have := ih (hi - ((lo + hi) / 2 + 1)) (by omega) ((lo + hi) / 2 + 1) hi rfl (by omega)
        omega
      · have := ih ((lo + hi) / 2 - lo) (by omega) lo ((lo + hi) / 2) rfl (by omega)
        omega
    · rw [bsF_ge h]
      omega
theorem bsD_le (l : List En) (id : Int) : bsD l id ≤ l.length := (bsF_bd _ _ 0 l.length rfl (by omega)).2
theorem insD_eq (elem size bytes n i : Nat) (rows : List (List AV)) (z : List AV) (hn : n = rows.length) (h1 : n ≤ 1000000) (hb : (n + 1) * bytes ≤ 140737488355328) (hi : i ≤ n) : insertC elem size bytes [.sl 0 0 0 n, .int .i64 (i : Nat), .sl 1 0 0 1] [{ gen := 0, kind := 2, elem := elem, size := size, inl := true, rows }, { gen := 0, kind := 2, elem := elem, size := size, inl := true, rows := [z] }] = some (.sl 0 1 0 (n + 1), [{ gen := 1, kind := 2, elem := elem, size := size, inl := true, rows := rows.take i ++ [z] ++ rows.drop i }, { gen := 0, kind := 2, elem := elem, size := size, inl := true, rows := [z] }]) := by
  unfold insertC
  simp only [okB, beq_self_eq_true, Bool.and_self, true_and, Int.toNat_natCast, rowB]
  rw [if_pos ⟨hn, rfl, hb, h1, by omega, by omega⟩]
end Go.Abs.Na
namespace Go.Abs.Na
open Go Go.Proofs Go.Abs
set_option maxRecDepth 100000
set_option maxHeartbeats 4000000
set_option linter.unusedSimpArgs false
set_option linter.unusedVariables false
attribute [local simp] instA slice3A slice3C
attribute [-simp] mkv
attribute [local simp] mkv_hd hdA_cons hdA_ob hdA_ob'
def rD (n : Int) (l : List En) (ms : List Msg) (e : Int) : AV := .tup [.agg [.int .i64 n, .list 41 (l.map enC)], .list 45 (ms.map Msg.v), .int .i64 e]
theorem enC_nrm (e : En) : nrmL Try.prog (leafs Try.prog 117) (enC e) = enC e := by
  rw [enLeafs]
  simp only [enC, nrmL]
  rw [nrmL_append _ _ _ _ e.obj.len'.symm, e.obj.nrmL]
  simp only [nrmL, nrmV, uI, uA, nrmRows_map iC_nrm, nrmRows_map askC_nrm]
theorem uE : Try.prog.underlying 93 = some (.slice 117) := by kernel_rfl
theorem uM : Try.prog.underlying 87 = some (.slice 50) := by kernel_rfl
theorem cE : Try.prog.cellsOf 117 = 41 := by kernel_rfl
theorem cM : Try.prog.cellsOf 50 = 45 := by kernel_rfl
theorem drLeafs : leafs Try.prog 95 = [3, 93] := lf95
theorem rD_nrm (n : Int) (l : List En) (ms : List Msg) (e : Int) : nrmR Try.prog [95, 87, 51] (rD n l ms e) = rD n l ms e := by
  simp only [rD, nrmR, nrmL, nrmV, drLeafs, uE, uM, nrmRows_map enC_nrm, nrmRows_map msg_nrm]
theorem rD_nrm0 (e : Int) : nrmR Try.prog [95, 87, 51] (.tup [.agg [.int .i64 0, .nils], .nils, .int .i64 e]) = rD 0 [] [] e := by
  simp only [rD, nrmR, nrmL, nrmV, drLeafs, uE, uM, cE, cM, List.map_nil]
theorem listR_app : ∀ {a : List AV} (_ : a.all AV.isInl = true) (l : List AV) (H : NL ABlk), listR frz0R (a ++ l) H = mapO (fun r => a ++ r) (listR frz0R l H)
  | [], _, l, H => by
    show listR frz0R l H = _
    cases listR frz0R l H with
    | none => rfl
    | some o => rfl
  | x :: a, h, l, H => by
    simp only [List.all_cons, Bool.and_eq_true] at h
    rw [List.cons_append, listR, frz0R_inl h.1, nxt_some, listR_app h.2, nxt_map, ← nxt_ret]
    rfl
@[local simp] theorem listR_ob (o : Ob) (l : List AV) (H : NL ABlk) : listR frz0R (o.cells ++ l) H = mapO (fun r => o.cells ++ r) (listR frz0R l H) := listR_app o.isInl l H
structure Fin where
  d : Drs
  e : En
  h1 : e.readers.length + e.queue.length ≤ 9000
  h2 : e.waiting.length ≤ 9000
  h3 : Dir.Asc e.readers
noncomputable def finR (x : Fin) : AV × List ABlk := (rD x.d.node (putD (Dir.goOn zOb x.e).2 x.d.ents) (goM x.e x.d.node) 0, [sesB (Dir.goOn zOb x.e).2 x.d.node (.list 45 ((goM x.e x.d.node).map Msg.v))])
noncomputable def finS : SpecFn := mkS2 (fun x : Fin => ([.ptr 0 0 0 0, x.d.v], [sesB x.e x.d.node .nils])) finR
theorem finS_eq (x : Fin) : finS [.ptr 0 0 0 0, x.d.v] [sesB x.e x.d.node .nils] = some (finR x) :=
  mkS2_eq (enc := fun x : Fin => ([AV.ptr 0 0 0 0, x.d.v], [sesB x.e x.d.node .nils])) (res := finR) (fun x y h => by
    obtain ⟨d, e, h1, h2, h3⟩ := x
    obtain ⟨d', e', h1', h2', h3'⟩ := y
    simp only [sesB, Prod.mk.injEq, List.cons.injEq, ABlk.mk.injEq, true_and, and_true] at h
    cases Drs.v_inj h.1
    obtain ⟨rfl, _⟩ := sesC_inj h.2
    rfl) x
noncomputable def fin_specs : NL Spec := [(174, ⟨3, goS⟩), (116, ⟨1, ownS⟩), (175, ⟨0, seaS⟩), (176, ⟨3, insertC 117 41 552⟩)]
theorem fin_specs_ok : ∀ p ∈ fin_specs, FnC Try.prog p.1 p.2.fn := by
  simp only [fin_specs, List.mem_cons, List.not_mem_nil, or_false]
  rintro p (rfl | rfl | rfl | rfl)
  · exact go_ok
  · exact own_ok
  · exact sea_ok
  · exact insert176_ok
attribute [local simp] fin_specs
theorem fin_ok : FnC Try.prog 108 finS := by
  refine FnC.walkBN 108 (fn := Try.f108) [95, 87, 51] Try.func108 rfl (by kernel_rfl) (fun x b hb => by simp at hb; rw [hb]; rfl) (fun x => ?_) (fun x => ⟨_, rD_nrm _ _ _ _⟩)
  obtain ⟨⟨nd, l, hl, he⟩, e, k1, k2, k3⟩ := x
  have c1 := goS_eq ⟨e, nd, k1, k2, k3⟩
  change W _ (RetBN _ _ _ 1 (rD nd (putD (Dir.goOn zOb e).2 l) (goM e nd) 0) [sesB (Dir.goOn zOb e).2 nd (.list 45 ((goM e nd).map Msg.v))]) _ _ ⟨61, [(0, .ptr 0 0 0 0), (1, .agg [.int .i64 nd, .list 41 (l.map enC)])], [(0, { gen := 0, kind := 2, elem := 162, size := 43, inl := false, rows := [.int .u64 e.id :: .int .i64 e.owner :: .list 1 (e.readers.map iC) :: (e.obj.cells ++ [.list 1 (e.waiting.map iC), .list 2 (e.queue.map askC), .int .i64 nd, .nils])] })]⟩
  unfold goR at c1
  dsimp only at c1
  generalize goM e nd = ms at *
  generalize Dir.goOn zOb e = G at *
  obtain ⟨m0, e'⟩ := G
  dsimp only at c1 ⊢
  simp only [sesB, sesC, msgB] at c1 ⊢
  have cap : l.length ≤ 9223372036854775807 := by omega
  have tkm : List.take ms.length (ms.map Msg.v) = ms.map Msg.v := List.take_of_length_le (by simp)
  repeat' (first | refine ZV ?_ | refine ZB (id := 0) tm fin_specs_ok ?_ | refine ZB (id := 1) tm fin_specs_ok ?_ | refine ZH (fun hb => ?_) (fun hb => ?_) | refine ZJ (by conv => lhs; simp [c1]) ?_ | refine ZA (fun hb => ?_) (fun hb => ?_))
  refine W.frzC 0 0 42 rfl rfl rfl rfl (by simp; rfl) (by conv => lhs; simp [frqT, frqV, frq1, frz1, AP.run, tkm]) (by rfl) ?_
  repeat' (first | refine ZV ?_ | refine ZB (id := 2) tm fin_specs_ok ?_ | refine ZB (id := 3) tm fin_specs_ok ?_ | refine ZH (fun hb => ?_) (fun hb => ?_) | refine ZJ (by conv => lhs; simp [cap]) ?_ | refine ZA (fun hb => ?_) (fun hb => ?_))
  refine W.phantom (t := 7) 416 117 41 true (by rfl) (by rfl) (by decide) ?_
  refine W.loop rfl (ι := { x : Nat × Nat × NL ABlk // x.1 ≤ l.length ∧ lk x.2.2 0 = some { gen := 0, kind := 2, elem := 162, size := 43, inl := false, rows := [.int .u64 e'.id :: .int .i64 e'.owner :: .list 1 (e'.readers.map iC) :: (e'.obj.cells ++ [.list 1 (e'.waiting.map iC), .list 2 (e'.queue.map askC), .int .i64 nd, .list 45 (ms.map Msg.v)])] } ∧ lk x.2.2 64 = some { gen := 1, kind := 2, elem := 95, size := 2, inl := false, rows := [[.int .i64 nd, .list 41 (l.map enC)]] } ∧ lk x.2.2 80 = some { gen := 1, kind := 2, elem := 95, size := 2, inl := false, rows := [[.int .i64 0, .nils]] } ∧ lk x.2.2 416 = some { gen := x.2.1, kind := 2, elem := 117, size := 41, inl := true, rows := (l.take x.1).map enC } })
    (fun x => ⟨61, [(0, .ptr 0 0 0 0), (3, .ptr 64 1 0 0), (4, .ptr 80 1 0 0), (7, .sl 416 x.1.2.1 0 x.1.1), (15, .list 41 (l.map enC)), (16, .int .i64 l.length), (17, .int .i64 (x.1.1 : Nat))], x.1.2.2⟩) (fun x => l.length - x.1.1)
    ⟨(0, 0, _), by simp, by simp [lk, lk_st], by simp [lk, lk_st], by simp [lk, lk_st], by simp [lk, lk_st]⟩ (AS.le_of rfl ⟨rfl, rfl, rfl, rfl, rfl, rfl, rfl, trivial⟩ (fun _ => rfl)) ?_
  rintro ⟨⟨k, g, h⟩, hk, g0, g1, g2, g3⟩
  dsimp only at hk g0 g1 g2 g3 ⊢
  by_cases hk2 : k = l.length
  · subst hk2
    rw [List.take_length] at g3
    have hil := bsD_le l e'.id
    have cs := sea_eq l (by omega) e'.id
    simp only [seaR] at cs
    unfold putD
    generalize bsD l e'.id = i at *
    have tl : List.take l.length (l.map enC) = l.map enC := List.take_of_length_le (by simp)
    cases hh : hasD l i e'.id with
    | true =>
      rw [hh] at cs
      have hi : i < l.length := by
        unfold hasD at hh
        split at hh
        · rename_i h0; exact (List.getElem?_eq_some_iff.1 h0).1
        · cases hh
      rw [if_pos rfl]
      obtain ⟨y, hy⟩ := get_lt hi
      have hm : (l.map enC)[i]? = some (enC y) := by rw [List.getElem?_map, hy]; rfl
      simp only [enC] at hm
      have q1 : (i : Int) < l.length := by omega
      have q2 : ¬ l.length ≤ i := by omega
      have hst : (l.map enC).set i (.int .u64 e'.id :: .int .i64 e'.owner :: .list 1 (e'.readers.map iC) :: (e'.obj.cells ++ [.list 1 (e'.waiting.map iC), .list 2 (e'.queue.map askC)])) = (l.set i e').map enC := by rw [List.map_set]; rfl
      have tl2 : List.take l.length ((l.set i e').map enC) = (l.set i e').map enC := List.take_of_length_le (by simp)
      have l2 : (l.set i e').length = l.length := by simp
      generalize l.set i e' = L at *
      repeat' (first | refine ZV ?_ | refine ZB tm fin_specs_ok ?_ | refine ZH (fun hb => ?_) (fun hb => ?_) | refine ZJ (by conv => lhs; simp [g0, g1, g2, g3, cs, tl, hm, q1, q2, cap, hst]) ?_ | refine ZA (fun hb => ?_) (fun hb => ?_))
      refine RetBN.dataE true [0] rfl (by conv => lhs; simp [lk_st, g1]) (by conv => lhs; simp [frqT, frqV, frqVs, frqL, frq1, lk_st, tl2, l2]) (by decide) (by rintro j hj; rcases (show j = 0 by omega) with rfl; exact ⟨rfl, by simp [lk_st, g0]⟩) (by simp [lk_st, g0]) (by conv => lhs; simp) ?_
      exact rD_nrm nd L ms 0
    | false =>
      rw [hh] at cs
      rw [if_neg (by simp)]
      have y3 : l.length ≤ 1000000 := by omega
      have y4 : (l.length + 1) * 552 ≤ 140737488355328 := by omega
      have ci := insD_eq 117 41 552 l.length i (l.map enC) (enC e') (by simp) y3 y4 hil
      simp only [enC] at ci
      have hst : (l.map enC).take i ++ (.int .u64 e'.id :: .int .i64 e'.owner :: .list 1 (e'.readers.map iC) :: (e'.obj.cells ++ [.list 1 (e'.waiting.map iC), .list 2 (e'.queue.map askC)])) :: (l.map enC).drop i = (l.take i ++ e' :: l.drop i).map enC := by rw [List.map_append, List.map_cons, List.map_take, List.map_drop]; rfl
      have l2 : (l.take i ++ e' :: l.drop i).length = l.length + 1 := by simp; omega
      generalize l.take i ++ e' :: l.drop i = L at *
      have tl2 : List.take (l.length + 1) (L.map enC) = L.map enC := List.take_of_length_le (by simp; omega)
      repeat' (first | refine ZV ?_ | refine ZB tm fin_specs_ok ?_ | refine ZH (fun hb => ?_) (fun hb => ?_) | refine ZJ (by conv => lhs; simp [g0, g1, g2, g3, cs, tl, ci, cap, m1, hst]) ?_ | refine ZA (fun hb => ?_) (fun hb => ?_))
      refine RetBN.dataE true [0] rfl (by conv => lhs; simp [lk_st, g1]) (by conv => lhs; simp [frqT, frqV, frqVs, frqL, frq1, lk_st, tl2, l2]) (by decide) (by rintro j hj; rcases (show j = 0 by omega) with rfl; exact ⟨rfl, by simp [lk_st, g0]⟩) (by simp [lk_st, g0]) (by conv => lhs; simp) ?_
      exact rD_nrm nd L ms 0
  · have hlt : k < l.length := by omega
    obtain ⟨y, hy⟩ := get_lt hlt
    have hm : (l.map enC)[k]? = some (enC y) := by rw [List.getElem?_map, hy]; rfl
    have co := ownS_eq y (he y (List.mem_of_getElem? hy))
    simp only [enC, enX, ixiB, ixaB] at hm co
    have q1 : (k : Int) < l.length := by omega
    have q2 : ¬ l.length ≤ k := by omega
    have hw : IntKind.i64.wrap ((k : Int) + 1) = ((k + 1 : Nat) : Int) := w64 (by omega) (by omega)
    have y1 : k ≤ maxLen := by simp only [maxLen]; omega
    have y2 : (k + 1) * 552 ≤ 140737488355328 := by omega
    have y3 : k + 1 ≤ maxLen := by simp only [maxLen]; omega
    have y4 : k ≤ 9223372036854775807 := by omega
    have ta : (l.take (k + 1)).map enC = (l.take k).map enC ++ [enC y] := by rw [List.take_add_one, hy, Option.toList_some, List.map_append]; rfl
    have tl : ((l.take k).map enC).length = k := by simp; omega
    obtain ⟨A, hA⟩ : ∃ A, (l.take k).map enC = A := ⟨_, rfl⟩
    rw [hA] at ta tl g3
    have tA : List.take k A = A := List.take_of_length_le (by omega)
    have fA : firstRows k A = A := first_all tl
    have t1 : List.take y.readers.length (y.readers.map iC) = y.readers.map iC := List.take_of_length_le (by simp)
    have t2 : List.take y.waiting.length (y.waiting.map iC) = y.waiting.map iC := List.take_of_length_le (by simp)
    have t3 : List.take y.queue.length (y.queue.map askC) = y.queue.map askC := List.take_of_length_le (by simp)
    clear hlt hk2
    repeat' (first | refine ZV ?_ | refine ZB tm fin_specs_ok ?_ | refine ZH (fun hb => ?_) (fun hb => ?_) | refine ZJ (by conv => lhs; simp [g0, g1, g2, g3, hm, co, q1, q2, hw, y1, y2, y3, y4, tA, fA, tl, t1, t2, t3, m1]) ?_ | refine ZA (fun hb => ?_) (fun hb => ?_))
    exact ⟨⟨(k + 1, g + 1, _), by dsimp only; omega, by simp [lk_st, g0], by simp [lk_st, g1], by simp [lk_st, g2], by simp [lk_st, ta]⟩, by dsimp only; omega, AS.le_of rfl ⟨rfl, rfl, rfl, rfl, rfl, rfl, rfl, trivial⟩ (fun _ => rfl)⟩
end Go.Abs.Na
