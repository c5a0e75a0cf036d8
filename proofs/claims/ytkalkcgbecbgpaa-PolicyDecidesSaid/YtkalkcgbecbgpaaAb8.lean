/- Contracts of functions of the slices package, the same for each kind of element. Conditions: none. -/
import Derived.Test.YtkalkcgbecbgpaaAb7
import Derived.Deep.Slices
import Derived.OpenShut
import Derived.ProofKit
namespace Go.Abs
open Go
set_option linter.unusedSimpArgs false
set_option linter.unusedVariables false
variable {P : Program}

/-- A contract that is computed, from a walk. -/
theorem FnC.ofV {S : SpecFn} (f : FuncId) {fn : Func} (hf : P.funcs[f]? = some fn) (hb : fn.body = some (codeOf fn)) (hname : (fn.name == "runtime.NumGoroutine") = false)
    (h : ∀ args B r B', S args B = some (r, B') → (∀ b ∈ B, b.gen = 0) ∧ V P (RetM P fn B.length r B') (codeOf fn) [] (init2 fn args B)) : FnC P f S := by
  refine ⟨⟨fn, hf, hname, by simp [hb]⟩, fun args B r B' hS E vs hH hr hx => ?_⟩
  obtain ⟨hg', hw⟩ := h args B r B' hS
  have hsz : vs.size = args.length := by have := hx.length; simpa using this
  have hsr : SR (init2 fn args B) { tmps := vs ++ Array.replicate (fn.ntmps - vs.size) undef, defers := [] } E := by
    refine ⟨by rw [hH]; funext i; simp [init2, lk_num], hr, rfl, by simp [init2, hsz], fun t x ht => ?_⟩
    simp only [init2, lk_num, Nat.zero_le, if_true, Nat.sub_zero] at ht
    obtain ⟨v, hv, hxv⟩ := hx.get ht
    refine ⟨v, ?_, hxv⟩
    have hlt : t < vs.size := by rw [hsz]; exact (List.getElem?_eq_some_iff.1 ht).1
    rw [Array.getElem?_append_left hlt]
    simpa using hv
  refine calls_of_wp hf hb (wp_mono (hw.h _ _ hsr) fun e a' w' hp => ?_)
  obtain ⟨σ', E1, rfl, h1, h2, he, xs, hxs, fz, out, ho, exp, gs, q1, q1b, q2, q2b, q3, rfl⟩ := hp
  obtain ⟨v, g1, g2⟩ := resVs_run h1 hxs
  obtain ⟨E2, k1, k2, k3, k4, k5⟩ := frqT_run h1.heap h1.hr g2 ho
  obtain ⟨E3, m1, m2, m3, m4, m5⟩ := export_envM hH hg' k2 k3 (h2.trans k4) q1 q1b q2 q2b q3
  have hfinal : bodyPost P fn (fun e w' => ∃ v E', e = .returned v ∧ E'.w = w' ∧ E'.H = (fun i => B'[i]?) ∧ HR E' ∧ Step E E' ∧ Rep E' (out.val.ren (expG exp gs out.H)) v) .ret a' E1.w :=
    ⟨h1.defers, v, g1, v, E3, rfl, m1.trans k1, m2, m3, m4, ren_rep m5 _ _ k5⟩
  rcases he with rfl | rfl
  · exact hfinal
  · exact hfinal

/-- Behind the first part only 'M' is known. -/
theorem V.cut {c : Code} {Q : AS → Prop} {fs : List Fr} {σ : AS} (hc : c = .seq (cL c) (cR c)) (M : AS → Prop) (h1 : V P Q (cL c) (.loop M :: fs) σ) (h2 : ∀ σ', M σ' → V P Q (cR c) fs σ') : V P Q c fs σ := by
  refine ⟨?_⟩
  rw [hc]
  refine VP.seq (h1.h.mono fun e σ h => ?_)
  cases e with
  | normal => exact (h2 σ h).h
  | _ => exact h

/-- A slice of no elements is nil or is not. -/
theorem V.slNil {c : Code} {Q : AS → Prop} {fs : List Fr} {n t id g off : Nat} {ts : NL AV} {H : NL ABlk} {blk : ABlk} (id' : Nat) (ht : lk ts t = some (.sl id g off 0)) (hb : lk H id = some blk) (hg : blk.gen = g) (hid : lk H id' = none)
    (h1 : V P Q c fs ⟨n, (t, .nils) :: ts, H⟩) (h2 : V P Q c fs ⟨n, (t, .psl id' 0 0 0 0) :: ts, (id', { gen := 1 }) :: H⟩) : V P Q c fs ⟨n, ts, H⟩ := by
  have dup : ∀ (y : AV) (H' : NL ABlk), AS.le ⟨n, (t, y) :: ts, H'⟩ ⟨n, (t, y) :: (t, .list blk.size []) :: ts, H'⟩ := fun y H' => ⟨rfl, fun t' x hx => ⟨x, by
    simp only [lk] at hx ⊢
    split at hx
    · rename_i e; rw [if_pos e]; exact hx
    · rename_i e; rw [if_neg e, if_neg e]; exact hx, fun _ _ h => h⟩, fun _ => rfl⟩
  have k : V P Q c fs ⟨n, (t, .list blk.size []) :: ts, H⟩ := V.nilCase (s := blk.size) id' (by simp [lk]) hid (V.weak (dup _ _) h1) (V.weak (dup _ _) h2)
  refine V.env (fun a E hs => ⟨E, rfl, Step.refl E, ?_⟩) k
  · refine ⟨hs.heap, hs.hr, hs.defers, hs.size, fun t' x hx => ?_⟩
    simp only [lk] at hx
    split at hx
    · rename_i e
      subst e
      simp only [Option.some.injEq] at hx
      subst hx
      obtain ⟨v, hv, hx⟩ := hs.tmps t _ ht
      refine ⟨v, hv, ?_⟩
      simp only [Rep] at hx
      obtain ⟨b, a, len', cap, k1, k2, rfl, k3⟩ := hx
      have hbb : b = blk := by
        have : E.H id = some blk := by rw [hs.heap]; exact hb
        rw [this] at k1; cases k1; rfl
      subst hbb
      obtain ⟨_, rfl, k4, k5, k6⟩ := k3 hg
      simp only [Rep, RepI]
      cases a with
      | none =>
        rcases Nat.eq_zero_or_pos cap with q | q
        · subst q; exact .inl ⟨rfl, trivial⟩
        · exact absurd (k6 q).1 (by simp)
      | some ad => exact .inr ⟨ad, cap, rfl, k4, k5, fun h => absurd rfl h, by simp only [RepRows]⟩
    · exact hs.tmps t' x hx

/-- A slice at the beginning of a row takes the row over, as long as it is. -/
theorem V.shrink {c : Code} {Q : AS → Prop} {fs : List Fr} {n t id g k : Nat} {ts : NL AV} {H : NL ABlk} {blk : ABlk} (ht : lk ts t = some (.sl id g 0 k)) (hb : lk H id = some blk) (hg : blk.gen = g) (hk : blk.kind = 2)
    (h : V P Q c fs ⟨n, (t, .sl id (g + 1) 0 k) :: ts, st H id { blk with gen := g + 1, rows := blk.rows.take k }⟩) : V P Q c fs ⟨n, ts, H⟩ := by
  refine V.env (fun a E hs => ?_) h
  have hbE : E.H id = some blk := by rw [hs.heap]; exact hb
  obtain ⟨q1, q2⟩ := hs.hr.shrink hbE hk k
  refine ⟨⟨E.w, upd E.H id (some { blk with gen := blk.gen + 1, rows := blk.rows.take k }), E.φ, E.cs, E.F⟩, rfl, q2, ?_, q1, hs.defers, hs.size, fun t' x hx => ?_⟩
  · subst hg
    show upd E.H id _ = lk (st H id _)
    rw [lk_st_upd, ← hs.heap]
  · simp only [lk] at hx
    split at hx
    · rename_i e
      subst e
      simp only [Option.some.injEq] at hx
      subst hx
      obtain ⟨v, hv, hx⟩ := hs.tmps t _ ht
      refine ⟨v, hv, ?_⟩
      simp only [Rep] at hx
      obtain ⟨b, a, len', cap, k1, k2, rfl, k3⟩ := hx
      rw [hbE] at k1; cases k1
      obtain ⟨j1, j2, j3, j4, j5⟩ := k3 hg
      simp only [Rep, upd_same]
      exact ⟨_, a, len', cap, rfl, by simp [hg], rfl, fun _ => ⟨.inr hk, j2, j3, j4, j5⟩⟩
    · obtain ⟨v, hv, hx⟩ := hs.tmps t' x hx
      exact ⟨v, hv, Rep.mono q2 _ _ hx⟩

def okB (elem size : Nat) (b : ABlk) : Bool := b.gen == 0 && b.kind == 2 && b.elem == elem && b.size == size && b.inl
theorem okB_eq {elem size : Nat} {b : ABlk} (h : okB elem size b = true) : b = { gen := 0, kind := 2, elem, size, inl := true, rows := b.rows } := by
  obtain ⟨a, b, c, d, e, f⟩ := b
  simp only [okB, Bool.and_eq_true, beq_iff_eq] at h
  obtain ⟨⟨⟨⟨rfl, rfl⟩, rfl⟩, rfl⟩, rfl⟩ := h
  rfl
def rowB (elem size g : Nat) (rows : List (List AV)) : ABlk := { gen := g, kind := 2, elem, size, inl := true, rows }
/-- What 'slices.Clone' gives. -/
def cloneC (elem size bytes : Nat) : SpecFn := fun args B => match args, B with
  | [.nils], [] => some (.nils, [])
  | [.list s rows], [] => if s = size ∧ rows.length * bytes ≤ 140737488355328 ∧ rows.length ≤ 9223372036854775807 ∧ rows.length ≤ maxLen then some (.sl 0 0 0 rows.length, [rowB elem size 0 rows]) else none
  | [.sl 0 0 0 len], [b] => if okB elem size b = true ∧ len = b.rows.length ∧ len * bytes ≤ 140737488355328 ∧ len ≤ maxLen then some (.sl 1 0 0 len, [b, rowB elem size 0 b.rows]) else none
  | _, _ => none
/-- What 'slices.Delete' gives. -/
def deleteC (elem size : Nat) : SpecFn := fun args B => match args, B with
  | [.sl 0 0 0 len, .int .i64 i, .int .i64 j], [b] => if okB elem size b = true ∧ len = b.rows.length ∧ len ≤ 1000000 ∧ 0 ≤ i ∧ i < j ∧ j ≤ len then
      some (.sl 0 1 0 (i.toNat + (len - j.toNat)), [rowB elem size 1 (b.rows.take i.toNat ++ b.rows.drop j.toNat)]) else none
  | _, _ => none
/-- What 'slices.Insert' gives, of one element. -/
def insertC (elem size bytes : Nat) : SpecFn := fun args B => match args, B with
  | [.sl 0 0 0 len, .int .i64 i, .sl 1 0 0 1], [b, c] => if okB elem size b = true ∧ okB elem size c = true ∧ len = b.rows.length ∧ c.rows.length = 1 ∧ (len + 1) * bytes ≤ 140737488355328 ∧ len ≤ 1000000 ∧ 0 ≤ i ∧ i ≤ len then
      some (.sl 0 1 0 (len + 1), [rowB elem size 1 (b.rows.take i.toNat ++ c.rows ++ b.rows.drop i.toNat), c]) else none
  | _, _ => none
theorem delete_rows {α : Type} {l Z R D : List α} {i j m : Nat} (hi : i < j) (hj : j ≤ l.length) (hm : i + (l.length - j) = m) :
    (((l.take i ++ ((l.drop j).take (l.length - j) ++ D)).take m) ++ (Z ++ R)).take m = l.take i ++ l.drop j := by
  have h1 : (l.take i).length = i := by rw [List.length_take]; omega
  have h2 : (l.drop j).length = l.length - j := List.length_drop
  have h3 : (l.take i ++ l.drop j).length = m := by rw [List.length_append, h1, h2, hm]
  have h4 : ∀ (A B : List α) (n : Nat), A.length = n → (A ++ B).take n = A := fun A B n h => by rw [← h, List.take_left']; rfl
  have h5 : (l.drop j).take (l.length - j) = l.drop j := by rw [← h2, List.take_length]
  have h6 : l.take i ++ (l.drop j ++ D) = (l.take i ++ l.drop j) ++ D := (List.append_assoc ..).symm
  rw [h5, h6, h4 _ D _ h3, h4 _ _ _ h3]

/-! ### Functions of data that give data -/
def freezeH : NL ABlk → List Nat → NL ABlk
  | H, [] => H
  | H, i :: r => match lk H i with
    | some b => if b.kind = 2 then freezeH (st H i { b with kind := 1 }) r else freezeH H r
    | none => freezeH H r
theorem freezeH_env : ∀ (ids : List Nat) {H : NL ABlk} {E : Env}, E.H = lk H → HR E → ∃ E1, E1.w = E.w ∧ E1.H = lk (freezeH H ids) ∧ HR E1 ∧ Step E E1
  | [], H, E, hH, hr => ⟨E, rfl, hH, hr, Step.refl E⟩
  | i :: r, H, E, hH, hr => by
    simp only [freezeH]
    split
    · rename_i b hb
      split
      · rename_i hk
        obtain ⟨q1, q2⟩ := hr.freeze (id := i) (by rw [hH]; exact hb) hk
        obtain ⟨E2, f1, f2, f3, f4⟩ := freezeH_env r (H := st H i { b with kind := 1 }) (E := ⟨E.w, upd E.H i (some { b with kind := 1 }), E.φ, E.cs, E.F⟩) (by rw [lk_st_upd, hH]) q1
        exact ⟨E2, f1, f2, f3, q2.trans f4⟩
      · exact freezeH_env r hH hr
    · exact freezeH_env r hH hr
/-- The same function, told as one from data to data. -/
def pureS (S : SpecFn) : SpecFn := fun args B => match B with
  | [] => match S args [] with
    | some (r, B') => if inlT (nzT (freezeH (num 0 B') (List.range B'.length)) r) = true then some (nzT (freezeH (num 0 B') (List.range B'.length)) r, []) else none
    | none => none
  | _ => none
theorem FnC.pure {S : SpecFn} {f : FuncId} (hf : FnC P f S) : FnC P f (pureS S) := by
  refine ⟨hf.1, fun args B r B' hS E vs hH hr hx => ?_⟩
  unfold pureS at hS
  split at hS
  · split at hS
    · rename_i r0 B0 h0
      split at hS
      · rename_i hi
        simp only [Option.some.injEq, Prod.mk.injEq] at hS
        obtain ⟨rfl, rfl⟩ := hS
        refine (hf.calls args [] r0 B0 h0 E vs hH hr hx).mono fun e w' ⟨v, E1, h1, h2, h3, h4, h5, h6⟩ => ?_
        have hE0 : E.H = fun _ => none := by rw [hH]; funext i; simp
        obtain ⟨E2, k1, k2, k3, k4⟩ := freezeH_env (List.range B0.length) (H := num 0 B0) (E := E1) (by rw [h3]; funext i; simp [lk_num]) h4
        have hx2 := nzT_rep k2 k3 (Rep.mono k4 _ _ h6)
        have hI := inlT_rep hi hx2
        have hs := h5.trans k4
        have hold : ∀ b, b < E.w.heap.size → E2.w.heap[b]? = E.w.heap[b]? := fun b hb => hs.old b hb (fun id blk h => by simp [hE0] at h)
        refine ⟨v, ⟨E2.w, fun _ => none, E2.φ, E2.cs, E2.F⟩, h1, k1.trans h2, by funext i; simp, ⟨fun _ _ h => by simp at h, fun _ _ _ _ h => by simp at h, fun _ _ h => by simp at h, k3.fb⟩, ⟨hs.size, fun b hb _ => hold b hb, hs.fo, fun id blk h => by simp [hE0] at h, fun _ _ h => by simp at h, hs.kept⟩, ?_⟩
        exact RepI.rep _ _ (RepI.mono (fun b hb => ⟨⟨hb.1, hb.2.1, fun _ _ h => by simp at h⟩, rfl⟩) _ _ hI)
      · cases hS
    · cases hS
  · cases hS

/-! ### Loops that end at once, or after one round -/
theorem W.zero {c : Code} {Q : AS → Prop} {fs : List Fr} {σ : AS} (hc : c = .loop (cL c)) (h : W P Q (cL c) (.loop (fun _ => False) :: fs) σ) : W P Q c fs σ :=
  W.loop hc (ι := Unit) (fun _ => σ) (fun _ => 0) () (AS.le_refl σ) fun _ => ⟨h.h.mono fun e σ' hp => by
    cases e with
    | normal => simp only [post] at hp
    | _ => exact hp⟩
theorem W.once {c : Code} {Q : AS → Prop} {fs : List Fr} {σ : AS} (σ1 : AS) (hc : c = .loop (cL c)) (h0 : W P Q (cL c) (.loop (fun σ' => σ' = σ1) :: fs) σ) (h1 : W P Q (cL c) (.loop (fun _ => False) :: fs) σ1) : W P Q c fs σ := by
  refine W.loop hc (ι := Bool) (fun b => match b with
    | true => σ
    | false => σ1) (fun b => match b with
    | true => 1
    | false => 0) true (AS.le_refl σ) fun b => ?_
  cases b with
  | true =>
    refine ⟨h0.h.mono fun e σ' hp => ?_⟩
    cases e with
    | normal =>
      simp only [post] at hp ⊢
      subst hp
      exact ⟨false, by decide, AS.le_refl _⟩
    | _ => exact hp
  | false =>
    refine ⟨h1.h.mono fun e σ' hp => ?_⟩
    cases e with
    | normal =>
      simp only [post] at hp
    | _ => exact hp
@[simp] theorem w64_n0 : IntKind.i64.wrap 0 = 0 := by decide
@[simp] theorem w64_n1 : IntKind.i64.wrap 1 = 1 := by decide
@[simp] theorem w64_n2 : IntKind.i64.wrap 2 = 2 := by decide
@[simp] theorem w64_n3 : IntKind.i64.wrap 3 = 3 := by decide
@[simp] theorem w64_n4 : IntKind.i64.wrap 4 = 4 := by decide
@[simp] theorem w64_m1 : IntKind.i64.wrap (-1) = -1 := by decide
end Go.Abs
namespace Go.Abs
open Go Go.ChangeShapes Go.WideShapes Go.Deep
set_option linter.unusedVariables false
set_option linter.unusedSimpArgs false

def tileB (P : Program) : List Field → Nat → Nat → Bool
  | [], o, tot => o == tot
  | f :: r, o, tot => f.offset == o && tileB P r (o + P.cellsOf f.type) tot
/-- Types of plain data. -/
def plainT (P : Program) : Nat → TypeId → Bool
  | 0, _ => false
  | n + 1, t => match P.underlying t with
    | some .bool => P.cellsOf t == 1
    | some (.int _) => P.cellsOf t == 1
    | some .string => P.cellsOf t == 1
    | some (.slice e) => P.cellsOf t == 1 && decide (0 < P.cellsOf e) && plainT P n e
    | some (.struct fs) => tileB P fs.toList 0 (P.cellsOf t) && fs.toList.all fun f => plainT P n f.type
    | some (.array m e) => P.cellsOf t == m * P.cellsOf e && plainT P n e
    | _ => false
def TyFs (q : TypeId → List AV → Prop) : List TypeId → List AV → Prop
  | [], xs => xs = []
  | t :: r, xs => ∃ a b, xs = a ++ b ∧ q t a ∧ TyFs q r b
/-- The cells of a value of a type. -/
def TyR (P : Program) : Nat → TypeId → List AV → Prop
  | 0, _, _ => False
  | n + 1, t, xs => match P.underlying t with
    | some .bool => ∃ b, xs = [.bool b]
    | some (.int k) => ∃ m, xs = [.int k m] ∧ (Lit.int k m).wf = true
    | some .string => ∃ s : ByteArray, xs = [.str s] ∧ s.size ≤ maxLen
    | some (.slice e) => ∃ rows, xs = [.list (P.cellsOf e) rows] ∧ rows.length ≤ maxLen ∧ ∀ row ∈ rows, TyR P n e row
    | some (.struct fs) => TyFs (TyR P n) (fs.toList.map (·.type)) xs
    | some (.array m e) => TyFs (TyR P n) (List.replicate m e) xs
    | _ => False

theorem RepIL.append {w : World} {I : Nat → Prop} : ∀ {xs ys : List AV} {us vs : List Value}, RepIL w I xs us → RepIL w I ys vs → RepIL w I (xs ++ ys) (us ++ vs)
  | [], ys, us, vs, h1, h2 => by
    simp only [RepIL] at h1
    subst h1
    exact h2
  | x :: r, ys, us, vs, h1, h2 => by
    simp only [RepIL] at h1
    obtain ⟨v, us', rfl, h3, h4⟩ := h1
    simp only [List.cons_append, RepIL]
    exact ⟨v, us' ++ vs, rfl, h3, RepIL.append h4 h2⟩
theorem pieces_rep {w : World} {I : Nat → Prop} {q : TypeId → List AV → Prop} {size : TypeId → Nat} {cs : List Value} : ∀ (ps : List (TypeId × Nat)) (o : Nat), (∀ p ∈ ps, ∃ xs, q p.1 xs ∧ RepIL w I xs ((cs.drop p.2).take (size p.1))) →
    (∀ (i : Nat) (p : TypeId × Nat), ps[i]? = some p → p.2 = o + ((ps.take i).map fun p => size p.1).sum) → o + (ps.map fun p => size p.1).sum = cs.length → ∃ xs, TyFs q (ps.map (·.1)) xs ∧ RepIL w I xs (cs.drop o)
  | [], o, _, _, hl => by
    refine ⟨[], rfl, ?_⟩
    simp only [List.map_nil, List.sum_nil, Nat.add_zero] at hl
    rw [List.drop_of_length_le (by omega)]
    simp [RepIL]
  | p :: r, o, h, ho, hl => by
    obtain ⟨a, h1, h2⟩ := h p (by simp)
    have hp := ho 0 p (by simp)
    simp only [List.take_zero, List.map_nil, List.sum_nil, Nat.add_zero] at hp
    obtain ⟨b, h3, h4⟩ := pieces_rep r (o + size p.1) (fun p hp => h p (by simp [hp])) (fun i q' hq => by
      have := ho (i + 1) q' (by simpa using hq)
      simp only [List.take_succ_cons, List.map_cons, List.sum_cons] at this
      omega) (by simp only [List.map_cons, List.sum_cons] at hl; omega)
    refine ⟨a ++ b, ⟨a, b, rfl, h1, h3⟩, ?_⟩
    rw [hp] at h2
    have := RepIL.append h2 h4
    rwa [← List.drop_drop, List.take_append_drop] at this
theorem list_choice {α : Type} {Q : Nat → α → Prop} : ∀ (n : Nat), (∀ i, i < n → ∃ x, Q i x) → ∃ l : List α, l.length = n ∧ ∀ i x, l[i]? = some x → Q i x
  | 0, _ => ⟨[], rfl, by simp⟩
  | n + 1, h => by
    obtain ⟨l, h1, h2⟩ := list_choice n fun i hi => h i (by omega)
    obtain ⟨x, hx⟩ := h n (by omega)
    refine ⟨l ++ [x], by simp [h1], fun i y hy => ?_⟩
    by_cases hi : i < n
    · rw [List.getElem?_append_left (by omega)] at hy
      exact h2 i y hy
    · rw [List.getElem?_append_right (by omega)] at hy
      have : i = n := by
        have := (List.getElem?_eq_some_iff.1 hy).1
        simp only [List.length_cons, List.length_nil] at this
        omega
      subst this
      simp only [h1, Nat.sub_self, List.getElem?_cons_zero, Option.some.injEq] at hy
      subst hy
      exact hx
theorem tile_sum {P : Program} : ∀ (fs : List Field) (o tot : Nat), tileB P fs o tot = true → o + (fs.map fun f => P.cellsOf f.type).sum = tot ∧ ∀ (i : Nat) (f : Field), fs[i]? = some f → f.offset = o + ((fs.take i).map fun f => P.cellsOf f.type).sum
  | [], o, tot, h => by
    simp only [tileB, beq_iff_eq] at h
    simp [h]
  | f :: r, o, tot, h => by
    simp only [tileB, Bool.and_eq_true, beq_iff_eq] at h
    obtain ⟨h1, h2⟩ := tile_sum r _ _ h.2
    refine ⟨by simp only [List.map_cons, List.sum_cons]; omega, fun i g hg => ?_⟩
    cases i with
    | zero =>
      simp only [List.getElem?_cons_zero, Option.some.injEq] at hg
      subst hg
      simp [h.1]
    | succ i =>
      simp only [List.getElem?_cons_succ] at hg
      have := h2 i g hg
      simp only [List.take_succ_cons, List.map_cons, List.sum_cons]
      omega

theorem RepIL.len {w : World} {I : Nat → Prop} : ∀ {xs : List AV} {vs : List Value}, RepIL w I xs vs → xs.length = vs.length
  | [], _, h => by simp only [RepIL] at h; subst h; rfl
  | x :: r, _, h => by
    simp only [RepIL] at h
    obtain ⟨v, vs', rfl, _, h2⟩ := h
    simp [RepIL.len h2]
theorem RepIL.at {w : World} {I : Nat → Prop} : ∀ {xs : List AV} {vs : List Value}, RepIL w I xs vs → ∀ {i : Nat} {x : AV}, xs[i]? = some x → ∃ v, vs[i]? = some v ∧ RepI w I x v
  | [], _, _, i, x, hx => by simp at hx
  | x :: r, _, h, i, y, hy => by
    simp only [RepIL] at h
    obtain ⟨v, vs', rfl, h1, h2⟩ := h
    cases i with
    | zero =>
      simp only [List.getElem?_cons_zero, Option.some.injEq] at hy
      subst hy
      exact ⟨v, rfl, h1⟩
    | succ i => simpa using RepIL.at h2 (by simpa using hy)
theorem sum_rep (n c : Nat) : (List.replicate n c).sum = n * c := by
  induction n with
  | zero => simp
  | succ n ih => rw [List.replicate_succ, List.sum_cons, ih, Nat.succ_mul]; omega
theorem add_block (a : Addr) (k : Nat) : (a.add k).block = a.block := by
  unfold Addr.add
  split <;> simp
/-- Values of plain data take one cell each. -/
def AV.plain : AV → Bool
  | .bool _ | .int _ _ | .str _ | .list _ _ => true
  | _ => false
theorem plain_one {w : World} {I : Nat → Prop} {x : AV} {v : Value} (h : x.plain = true) (hx : RepI w I x v) : v.oneCell' = true := by
  cases x <;> simp only [AV.plain] at h <;> try (cases h)
  all_goals simp only [RepI] at hx
  case list size rows => rcases hx with ⟨rfl, _⟩ | ⟨a, cap, rfl, _⟩ <;> rfl
  all_goals (subst hx; rfl)
theorem TyFs.all {q : TypeId → List AV → Prop} (hq : ∀ t xs, q t xs → xs.all AV.plain = true) : ∀ (ts : List TypeId) (xs : List AV), TyFs q ts xs → xs.all AV.plain = true
  | [], xs, h => by simp only [TyFs] at h; subst h; rfl
  | t :: r, xs, h => by
    simp only [TyFs] at h
    obtain ⟨a, b, rfl, h1, h2⟩ := h
    rw [List.all_append, hq t a h1, TyFs.all hq r b h2]
    rfl
theorem TyR.all {P : Program} : ∀ (n : Nat) (t : TypeId) (xs : List AV), TyR P n t xs → xs.all AV.plain = true
  | 0, _, _, h => h.elim
  | n + 1, t, xs, h => by
    unfold TyR at h
    split at h
    · obtain ⟨b, rfl⟩ := h; rfl
    · obtain ⟨m, rfl, _⟩ := h; rfl
    · obtain ⟨s, rfl, _⟩ := h; rfl
    · obtain ⟨rows, rfl, _⟩ := h; rfl
    · exact TyFs.all (fun t xs h => TyR.all n t xs h) _ _ h
    · exact TyFs.all (fun t xs h => TyR.all n t xs h) _ _ h
    · exact h.elim

theorem trod_rep {H : Type} {enc : TypeId × Value → H} {P : Program} {w : World} {base : Nat} {spare : Nat → Bool} {held : Bool} : ∀ (n : Nat) (t : TypeId) (fuel : Nat) (cs : List Value) (x : DataW H × List MemPlace), plainT P n t = true →
    DataW.trod enc P w base spare held fuel t cs = some x → cs.length = P.cellsOf t ∧ ∃ xs, TyR P n t xs ∧ RepIL w (fun b => b < w.heap.size) xs cs
  | 0, _, _, _, _, h, _ => by simp [plainT] at h
  | n + 1, t, fuel, cs, x, h, ht => by
    unfold plainT at h
    unfold TyR
    split at h
    · rename_i hu
      obtain ⟨b, rfl, _⟩ := DataW.trod_bool hu ht
      exact ⟨by simpa using Eq.symm (beq_iff_eq.1 h), [.bool b], ⟨b, rfl⟩, by simp [RepIL, RepI]⟩
    · rename_i k hu
      obtain ⟨m, rfl, _, hwf⟩ := DataW.trod_int hu ht
      exact ⟨by simpa using Eq.symm (beq_iff_eq.1 h), [.int k m], ⟨m, rfl, hwf⟩, by simp [RepIL, RepI]⟩
    · rename_i hu
      obtain ⟨s, rfl, _, hs⟩ := DataW.trod_string hu ht
      exact ⟨by simpa using Eq.symm (beq_iff_eq.1 h), [.str s], ⟨s, rfl, hs⟩, by simp [RepIL, RepI]⟩
    · rename_i e hu
      simp only [Bool.and_eq_true, beq_iff_eq, decide_eq_true_eq] at h
      obtain ⟨⟨h1, h2⟩, h3⟩ := h
      rcases open_slice hu ht with ⟨rfl, _⟩ | ⟨a, len, cap, m, k, D, Pl, rfl, hb, hl, hm, hmm, _, hel⟩
      · exact ⟨by simpa using h1.symm, [.list (P.cellsOf e) []], ⟨[], rfl, Nat.zero_le _, by simp⟩, by simp [RepIL, RepI]⟩
      · have hlm : len ≤ m := by rw [hmm]; split <;> omega
        have hspot0 : 0 < len → a.spot = none ∧ a.block < w.heap.size := fun h0 => by
          obtain ⟨cs', hc, ht'⟩ := hel 0 (by omega)
          obtain ⟨_, hcl, hat⟩ := World.cells?_some hc
          have h0 : w.cell? ((a.add (0 * P.cellsOf e)).add 0) = cs'[0]? := hat 0 h2
          have ha : (a.add (0 * P.cellsOf e)).add 0 = a := by simp [Addr.add]
          rw [ha, List.getElem?_eq_getElem (by omega)] at h0
          unfold World.cell? at h0
          split at h0
          · rename_i c _ _ hbk
            split at h0
            · cases h0
            · rename_i hsp
              exact ⟨by simpa using hsp, (Array.getElem?_eq_some_iff.1 hbk).1⟩
          · cases h0
        obtain ⟨rows, r1, r2⟩ := list_choice (Q := fun i row => TyR P n e row ∧ row.length = P.cellsOf e ∧ (a.spot = none ∧ a.block < w.heap.size) ∧ RepC w (fun b => b < w.heap.size) row a.block (a.off + i * P.cellsOf e)) len (fun i hi => by
          obtain ⟨cs', hc, ht'⟩ := hel i (by omega)
          obtain ⟨q1, xs, q2, q3⟩ := trod_rep n e k cs' _ h3 ht'
          obtain ⟨_, hcl, hat⟩ := World.cells?_some hc
          have hlen : xs.length = P.cellsOf e := by rw [q3.len, hcl]
          have hcell : ∀ j, j < P.cellsOf e → w.cell? ((a.add (i * P.cellsOf e)).add j) = cs'[j]? := hat
          have hspot : a.spot = none ∧ a.block < w.heap.size := hspot0 (by omega)
          refine ⟨xs, q2, hlen, hspot, RepC.of_get fun j y hy => ?_⟩
          obtain ⟨v, hv, hyv⟩ := q3.at hy
          have hj : j < P.cellsOf e := by have := (List.getElem?_eq_some_iff.1 hy).1; omega
          have hj2 := hcell j hj
          rw [hv] at hj2
          refine ⟨v, ?_, ?_, hyv⟩
          · rw [← hj2]
            congr 1
            obtain ⟨ab, ao, asp⟩ := a
            simp only at hspot
            rw [hspot.1]
            unfold Addr.add
            split <;> split <;> simp <;> omega
          · exact plain_one (List.all_eq_true.1 (TyR.all n e xs q2) y (List.mem_of_getElem? hy)) hyv)
        refine ⟨by simpa using h1.symm, [.list (P.cellsOf e) rows], ⟨rows, rfl, by omega, fun row hrow => ?_⟩, ?_⟩
        · obtain ⟨i, hi⟩ := List.mem_iff_getElem?.1 hrow
          exact (r2 i row hi).1
        · simp only [RepIL, RepI]
          refine ⟨_, [], rfl, .inr ⟨a, cap, by rw [r1], by omega, hm, fun hne => ?_, RepRows.of_get fun i row hi => ⟨(r2 i row hi).2.1, (r2 i row hi).2.2.2⟩⟩, rfl⟩
          match rows, hne, r2 with
          | row :: _, _, r2 => exact (r2 0 row (by simp)).2.2.1
    · rename_i fs hu
      simp only [Bool.and_eq_true, List.all_eq_true] at h
      obtain ⟨ys, m, rfl, rfl, hlen, hyl, hf⟩ := DataW.trod_struct hu ht
      obtain ⟨t1, t2⟩ := tile_sum _ _ _ h.1
      refine ⟨hlen, ?_⟩
      have := pieces_rep (w := w) (I := fun b => b < w.heap.size) (q := TyR P n) (size := P.cellsOf) (cs := cs) (fs.toList.map fun f => (f.type, f.offset)) 0 (fun p hp => by
          obtain ⟨f, hfm, rfl⟩ := List.mem_map.1 hp
          obtain ⟨i, hi⟩ := List.mem_iff_getElem?.1 hfm
          have hfi := hf i f (by simpa using hi)
          have hil : i < ys.length := by
            have := (List.getElem?_eq_some_iff.1 hi).1
            simp only [Array.length_toList] at this
            omega
          rw [List.getElem?_eq_getElem hil] at hfi
          obtain ⟨_, xs, q1, q2⟩ := trod_rep n f.type m _ _ (h.2 f hfm) hfi
          exact ⟨xs, q1, q2⟩)
        (fun i p hp => by
          simp only [List.getElem?_map, Option.map_eq_some_iff] at hp
          obtain ⟨f, hfi, rfl⟩ := hp
          have := t2 i f hfi
          simpa [List.map_take, List.map_map, Function.comp_def] using this)
        (by rw [hlen]; simpa [List.map_map, Function.comp_def] using t1)
      obtain ⟨xs, q1, q2⟩ := this
      refine ⟨xs, by simpa [List.map_map, Function.comp_def] using q1, by simpa using q2⟩
    · rename_i k e hu
      simp only [Bool.and_eq_true, beq_iff_eq] at h
      obtain ⟨ys, m, rfl, rfl, hlen, hyl, hf⟩ := DataW.trod_array hu ht
      refine ⟨hlen, ?_⟩
      have := pieces_rep (w := w) (I := fun b => b < w.heap.size) (q := TyR P n) (size := P.cellsOf) (cs := cs) ((List.range k).map fun i => (e, i * P.cellsOf e)) 0 (fun p hp => by
          obtain ⟨i, hi, rfl⟩ := List.mem_map.1 hp
          have hik : i < k := by simpa using hi
          have hfi := hf i hik
          rw [List.getElem?_eq_getElem (by omega)] at hfi
          obtain ⟨_, xs, q1, q2⟩ := trod_rep n e m _ _ h.2 hfi
          exact ⟨xs, q1, q2⟩)
        (fun i p hp => by
          simp only [List.getElem?_map, Option.map_eq_some_iff] at hp
          obtain ⟨j, hj, rfl⟩ := hp
          have hlt : i < k := by have := (List.getElem?_eq_some_iff.1 hj).1; simpa using this
          rw [List.getElem?_range (by have := (List.getElem?_eq_some_iff.1 hj).1; simpa using this)] at hj
          simp only [Option.some.injEq] at hj
          subst hj
          simp only [List.map_take, List.map_map, Function.comp_def, List.map_const', List.length_range, List.take_replicate, sum_rep, Nat.zero_add]
          simp [Nat.min_eq_left (Nat.le_of_lt hlt)])
        (by rw [hlen, h.1]; simp [List.map_map, Function.comp_def, List.map_const', sum_rep])
      obtain ⟨xs, q1, q2⟩ := this
      refine ⟨xs, by simpa [List.map_map, Function.comp_def, List.map_const'] using q1, by simpa using q2⟩
    · cases h
end Go.Abs
namespace Go.Abs
open Go Go.ChangeShapes Go.WideShapes Go.ChangeAt Go.RowKit

/-- A value of a type of plain data. -/
def TyV (P : Program) (n : Nat) (t : TypeId) (x : AV) : Prop :=
  match P.underlying t with
  | some (.struct _) | some (.array _ _) => ∃ cs, x = .agg cs ∧ TyR P n t cs
  | _ => TyR P n t [x]
theorem Trod_rep {H : Type} {enc : TypeId × Value → H} {P : Program} {w : World} {base b0 : Nat} {spare : Nat → Bool} {held : Bool} {r : Reach} {n : Nat} {t : TypeId} {v : Value} {d : DataW H} {ps : List MemPlace} (hp : plainT P n t = true)
    (hv : Value.okWide P w r b0 t v) (h : DataW.Trod enc P w base spare held t v d ps) : ∃ x, TyV P n t x ∧ RepI w (fun b => b < w.heap.size) x v := by
  obtain ⟨fuel, hf⟩ := h
  obtain ⟨h1, xs, h2, h3⟩ := trod_rep n t fuel _ _ hp hf
  unfold TyV
  have one : (∀ cs, v ≠ .agg cs) → ∃ x, xs = [x] ∧ RepI w (fun b => b < w.heap.size) x v := by
    intro hne
    have hc : v.cells.toList = [v] := by
      cases v with
      | agg cs => exact absurd rfl (hne cs)
      | _ => rfl
    rw [hc] at h3
    match xs, h3 with
    | [x], h3 =>
      simp only [RepIL] at h3
      obtain ⟨v', vs', he, hx, _⟩ := h3
      simp only [List.cons.injEq] at he
      obtain ⟨rfl, _⟩ := he
      exact ⟨x, rfl, hx⟩
    | [], h3 => simp [RepIL] at h3
    | _ :: _ :: _, h3 =>
      have := h3.len
      simp at this
  have hv0 := hv
  unfold Value.okWide at hv
  cases n with
  | zero => simp [plainT] at hp
  | succ n =>
    have hp' := hp
    unfold plainT at hp'
    split at hp'
    all_goals
      rename_i hu
      simp only [hu] at hv ⊢
    case h_5 =>
      obtain ⟨cs, rfl, _⟩ := hv
      exact ⟨.agg xs, ⟨xs, rfl, h2⟩, by simp only [RepI]; exact ⟨cs, rfl, by simpa [Value.cells] using h3⟩⟩
    case h_6 =>
      obtain ⟨cs, rfl, _⟩ := hv
      exact ⟨.agg xs, ⟨xs, rfl, h2⟩, by simp only [RepI]; exact ⟨cs, rfl, by simpa [Value.cells] using h3⟩⟩
    case h_1 =>
      obtain ⟨b, rfl⟩ := okWide_bool hu hv0
      obtain ⟨x, rfl, hx⟩ := one (fun cs h => by cases h)
      exact ⟨x, h2, hx⟩
    case h_2 =>
      obtain ⟨b, rfl⟩ := okWide_int hu hv0
      obtain ⟨x, rfl, hx⟩ := one (fun cs h => by cases h)
      exact ⟨x, h2, hx⟩
    case h_3 =>
      obtain ⟨b, rfl⟩ := okWide_string hu hv0
      obtain ⟨x, rfl, hx⟩ := one (fun cs h => by cases h)
      exact ⟨x, h2, hx⟩
    case h_4 =>
      obtain ⟨a0, len, cap, rfl⟩ := okWide_slice hu hv0
      obtain ⟨x, rfl, hx⟩ := one (fun cs h => by cases h)
      exact ⟨x, h2, hx⟩
    case h_7 => cases hp'

theorem TrodAll_rep {H : Type} {enc : TypeId × Value → H} {P : Program} {w : World} {base b0 : Nat} {spare : Nat → Bool} {held : Bool} {r : Reach} {n : Nat} : ∀ (ts : List TypeId) (vs : List Value) (ds : List (DataW H)) (ps : List MemPlace), (∀ t ∈ ts, plainT P n t = true) →
    (∀ (j : Nat) t v, ts[j]? = some t → vs[j]? = some v → Value.okWide P w r b0 t v) → DataW.TrodAll enc P w base spare held ts vs ds ps → ∃ xs, TyFs (fun t ys => ∃ x, ys = [x] ∧ TyV P n t x) ts xs ∧ RepIL w (fun b => b < w.heap.size) xs vs
  | [], [], [], _, _, _, _ => ⟨[], rfl, by simp [RepIL]⟩
  | t :: ts, v :: vs, d :: ds, ps, hp, hv, ⟨p, q, h1, h2, _⟩ => by
    obtain ⟨x, h3, h4⟩ := Trod_rep (hp t (by simp)) (hv 0 t v rfl rfl) h1
    obtain ⟨xs, h5, h6⟩ := TrodAll_rep ts vs ds q (fun t ht => hp t (by simp [ht])) (fun j t v h1 h2 => hv (j + 1) t v (by simpa using h1) (by simpa using h2)) h2
    exact ⟨x :: xs, ⟨[x], xs, rfl, ⟨x, rfl, h3⟩, h5⟩, by simp only [RepIL]; exact ⟨v, vs, rfl, h4, h6⟩⟩
theorem TrodAll_stays {H : Type} {enc : TypeId × Value → H} {P : Program} (hl : laidOutB P = true) {W W' : World} (hb : Below W.heap.size W W') {sp : Nat → Bool} : ∀ (ts : List TypeId) (vs : List Value) (ds : List (DataW H)) (ps : List MemPlace),
    (∀ t ∈ ts, P.readableRec t = true ∧ t < P.types.size) → (∀ p ∈ ps, p.block < W.heap.size ∧ sp p.block = true) → DataW.TrodAll enc P W 0 (fun _ => true) true ts vs ds ps → DataW.TrodAll enc P W' 0 sp true ts vs ds ps
  | [], [], [], _, _, _, h => h
  | t :: ts, v :: vs, d :: ds, ps, ht, hp, ⟨p, q, h1, h2, e⟩ =>
    ⟨p, q, WideElems.Trod_stays hl (ht t (by simp)).1 (ht t (by simp)).2 h1 (fun x hx => hb.same (hp x (by rw [e]; exact List.mem_append_left _ hx)).1) (fun x hx => (hp x (by rw [e]; exact List.mem_append_left _ hx)).2),
      TrodAll_stays hl hb ts vs ds q (fun t h => ht t (by simp [h])) (fun x hx => hp x (by rw [e]; exact List.mem_append_right _ hx)) h2, e⟩

theorem TrodAll_len {H : Type} {enc : TypeId × Value → H} {P : Program} {w : World} {base : Nat} {spare : Nat → Bool} {held : Bool} : ∀ (ts : List TypeId) (vs : List Value) (ds : List (DataW H)) (ps : List MemPlace), DataW.TrodAll enc P w base spare held ts vs ds ps → ds.length = ts.length
  | [], [], [], _, _ => rfl
  | _ :: ts, _ :: vs, _ :: ds, _, ⟨_, q, _, h2, _⟩ => by simp [TrodAll_len ts vs ds q h2]

theorem law_calls {P : Program} {f : FuncId} {fn : Func} {S : SpecFn} (hf : FnC P f S) {H : Type} {enc : TypeId × Value → H} {W : World} {args : Array Value} {ds gs : List (DataW H)} {before : List MemPlace} {s : ChangeSpec} {apart fresh handsOn again : Bool}
    (hl : laidOutB P = true) (hr : ∀ t ∈ fn.params.toList, P.readableRec t = true ∧ t < P.types.size) {tb : TypeId} (hrt : fn.resultTypes = #[tb]) (htb : P.underlying tb = some .bool)
    (hvars : s.vars = []) (hspec : ∀ ds, ds.length = fn.params.size → s.fn H ds = { results := [.lit (.bool true)], args := ds })
    (hW : DataW.Whole enc P fn.params.toList s.vars apart W args.toList ds gs before)
    {xs : List AV} (hx : RepIL W (fun b => b < W.heap.size) xs args.toList) (hS : S xs [] = some (.bool true, [])) :
    Calls P f args W fun e W' => ∃ v, e = .returned v ∧ s.post enc P fn apart fresh handsOn again W args v W' := by
  have hE0 : (env0 W (fun _ => False)).imm = fun b => b < W.heap.size := by
    funext b; simp [Env.imm, env0]
  have hargs : RepL (env0 W (fun _ => False)) xs args.toList := RepIL.rep _ _ (by rw [hE0]; exact hx)
  refine (hf.calls xs [] (.bool true) [] hS (env0 W (fun _ => False)) args (by funext i; simp [env0]) (HR.env0 (fun b h => h.elim)) hargs).mono fun e w' ⟨v, E', h1, h2, h3, h4, h5, h6⟩ => ⟨v, h1, ?_⟩
  subst h2
  simp only [Rep] at h6
  subst h6
  have hb : Below W.heap.size W E'.w := ⟨h5.kept.os, h5.kept.tape, h5.kept.output, h5.size, fun k hk => h5.old k hk (fun id blk h => by simp [env0] at h)⟩
  have hW' := hW
  obtain ⟨p, q, hA, hV, rfl, hfz, hnd⟩ := hW
  rw [hvars] at hV
  obtain ⟨rfl, rfl⟩ := trodVars_none hV
  have hlen : ds.length = fn.params.size := by rw [TrodAll_len _ _ _ _ hA, Array.length_toList]
  have hs := hspec ds hlen
  refine post_of_same (pa := p) (pv := []) hW' (fun b sp hd => ?_) (fun sp hsp => ?_) (fun sp hsp => ?_) rfl (hb.frame _) h5.kept.fr (ok_one hrt rfl (okWide_bool_mk htb true))
  · rw [List.append_nil, hs, hrt]
    exact trodAll_mk1 (shut_bool htb true)
  · rw [List.append_nil, hs]
    exact TrodAll_stays hl hb _ _ _ _ hr (fun x hx => ⟨hW'.lt x (by simp [hx]), hsp x (by simp [hx])⟩) hA
  · rw [List.append_nil, hs, hvars]
    rfl
end Go.Abs
