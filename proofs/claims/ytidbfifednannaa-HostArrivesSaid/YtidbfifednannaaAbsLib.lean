/- Contracts of functions of the slices package, the same for each kind of element. Conditions: none. -/
import Derived.Test.YtidbfifednannaaAbsTm
namespace Go.Abs
open Go
set_option linter.unusedSimpArgs false
set_option linter.unusedVariables false
variable {P : Program}

/-- A contract that is computed, from a walk. -/
theorem FnC.ofV {S : SpecFn} (f : FuncId) {fn : Func} (hf : P.funcs[f]? = some fn) (hb : fn.body = some (codeOf fn)) (hname : (fn.name == "runtime.NumGoroutine") = false)
    (h : ∀ args B r B', S args B = some (r, B') → (∀ b ∈ B, b.gen = 0) ∧ V P (RetM P fn B.length r B') (codeOf fn) [] (init2 fn args B)) : FnC P f S := by
  refine ⟨⟨fn, hf, hname, by simp [hb]⟩, fun args B r B' hS E vs hH hr hx => ?_⟩
  obtain ⟨hg', hw⟩ := h args B r B' hS
  have hsz : vs.size = args.length := by have := hx.length; simpa using this
  have hsr : SR (init2 fn args B) { tmps := vs ++ Array.replicate (fn.ntmps - vs.size) undef, defers := [] } E := by
    refine ⟨by rw [hH]; funext i; simp [init2, lk_num], hr, rfl, by simp [init2, hsz], fun t x ht => ?_⟩
    simp only [init2, lk_num, Nat.zero_le, if_true, Nat.sub_zero] at ht
    obtain ⟨v, hv, hxv⟩ := hx.get ht
    refine ⟨v, ?_, hxv⟩
    have hlt : t < vs.size := by rw [hsz]; exact (List.getElem?_eq_some_iff.1 ht).1
    rw [Array.getElem?_append_left hlt]
    simpa using hv
  refine calls_of_wp hf hb (wp_mono (hw.h _ _ hsr) fun e a' w' hp => ?_)
  obtain ⟨σ', E1, rfl, h1, h2, he, xs, hxs, fz, out, ho, exp, gs, q1, q1b, q2, q2b, q3, rfl⟩ := hp
  obtain ⟨v, g1, g2⟩ := resVs_run h1 hxs
  obtain ⟨E2, k1, k2, k3, k4, k5⟩ := frqT_run h1.heap h1.hr g2 ho
  obtain ⟨E3, m1, m2, m3, m4, m5⟩ := export_envM hH hg' k2 k3 (h2.trans k4) q1 q1b q2 q2b q3
  have hfinal : bodyPost P fn (fun e w' => ∃ v E', e = .returned v ∧ E'.w = w' ∧ E'.H = (fun i => B'[i]?) ∧ HR E' ∧ Step E E' ∧ Rep E' (out.val.ren (expG exp gs out.H)) v) .ret a' E1.w :=
    ⟨h1.defers, v, g1, v, E3, rfl, m1.trans k1, m2, m3, m4, ren_rep m5 _ _ k5⟩
  rcases he with rfl | rfl
  · exact hfinal
  · exact hfinal

/-- Behind the first part only 'M' is known. -/
theorem V.cut {c : Code} {Q : AS → Prop} {fs : List Fr} {σ : AS} (hc : c = .seq (cL c) (cR c)) (M : AS → Prop) (h1 : V P Q (cL c) (.loop M :: fs) σ) (h2 : ∀ σ', M σ' → V P Q (cR c) fs σ') : V P Q c fs σ := by
  refine ⟨?_⟩
  rw [hc]
  refine VP.seq (h1.h.mono fun e σ h => ?_)
  cases e with
  | normal => exact (h2 σ h).h
  | _ => exact h

/-- A slice of no elements is nil or is not. -/
theorem V.slNil {c : Code} {Q : AS → Prop} {fs : List Fr} {n t id g off : Nat} {ts : NL AV} {H : NL ABlk} {blk : ABlk} (id' : Nat) (ht : lk ts t = some (.sl id g off 0)) (hb : lk H id = some blk) (hg : blk.gen = g) (hid : lk H id' = none)
    (h1 : V P Q c fs ⟨n, (t, .nils) :: ts, H⟩) (h2 : V P Q c fs ⟨n, (t, .psl id' 0 0 0 0) :: ts, (id', { gen := 1 }) :: H⟩) : V P Q c fs ⟨n, ts, H⟩ := by
  have dup : ∀ (y : AV) (H' : NL ABlk), AS.le ⟨n, (t, y) :: ts, H'⟩ ⟨n, (t, y) :: (t, .list blk.size []) :: ts, H'⟩ := fun y H' => ⟨rfl, fun t' x hx => ⟨x, by
    simp only [lk] at hx ⊢
    split at hx
    · rename_i e; rw [if_pos e]; exact hx
    · rename_i e; rw [if_neg e, if_neg e]; exact hx, fun _ _ h => h⟩, fun _ => rfl⟩
  have k : V P Q c fs ⟨n, (t, .list blk.size []) :: ts, H⟩ := V.nilCase (s := blk.size) id' (by simp [lk]) hid (V.weak (dup _ _) h1) (V.weak (dup _ _) h2)
  refine V.env (fun a E hs => ⟨E, rfl, Step.refl E, ?_⟩) k
  · refine ⟨hs.heap, hs.hr, hs.defers, hs.size, fun t' x hx => ?_⟩
    simp only [lk] at hx
    split at hx
    · rename_i e
      subst e
      simp only [Option.some.injEq] at hx
      subst hx
      obtain ⟨v, hv, hx⟩ := hs.tmps t _ ht
      refine ⟨v, hv, ?_⟩
      simp only [Rep] at hx
      obtain ⟨b, a, len', cap, k1, k2, rfl, k3⟩ := hx
      have hbb : b = blk := by
        have : E.H id = some blk := by rw [hs.heap]; exact hb
        rw [this] at k1; cases k1; rfl
      subst hbb
      obtain ⟨_, rfl, k4, k5, k6⟩ := k3 hg
      simp only [Rep, RepI]
      cases a with
      | none =>
        rcases Nat.eq_zero_or_pos cap with q | q
        · subst q; exact .inl ⟨rfl, trivial⟩
        · exact absurd (k6 q).1 (by simp)
      | some ad => exact .inr ⟨ad, cap, rfl, k4, k5, fun h => absurd rfl h, by simp only [RepRows]⟩
    · exact hs.tmps t' x hx

/-- A slice at the beginning of a row takes the row over, as long as it is. -/
theorem V.shrink {c : Code} {Q : AS → Prop} {fs : List Fr} {n t id g k : Nat} {ts : NL AV} {H : NL ABlk} {blk : ABlk} (ht : lk ts t = some (.sl id g 0 k)) (hb : lk H id = some blk) (hg : blk.gen = g) (hk : blk.kind = 2)
    (h : V P Q c fs ⟨n, (t, .sl id (g + 1) 0 k) :: ts, st H id { blk with gen := g + 1, rows := blk.rows.take k }⟩) : V P Q c fs ⟨n, ts, H⟩ := by
  refine V.env (fun a E hs => ?_) h
  have hbE : E.H id = some blk := by rw [hs.heap]; exact hb
  obtain ⟨q1, q2⟩ := hs.hr.shrink hbE hk k
  refine ⟨⟨E.w, upd E.H id (some { blk with gen := blk.gen + 1, rows := blk.rows.take k }), E.φ, E.cs, E.F⟩, rfl, q2, ?_, q1, hs.defers, hs.size, fun t' x hx => ?_⟩
  · subst hg
    show upd E.H id _ = lk (st H id _)
    rw [lk_st_upd, ← hs.heap]
  · simp only [lk] at hx
    split at hx
    · rename_i e
      subst e
      simp only [Option.some.injEq] at hx
      subst hx
      obtain ⟨v, hv, hx⟩ := hs.tmps t _ ht
      refine ⟨v, hv, ?_⟩
      simp only [Rep] at hx
      obtain ⟨b, a, len', cap, k1, k2, rfl, k3⟩ := hx
      rw [hbE] at k1; cases k1
      obtain ⟨j1, j2, j3, j4, j5⟩ := k3 hg
      simp only [Rep, upd_same]
      exact ⟨_, a, len', cap, rfl, by simp [hg], rfl, fun _ => ⟨.inr hk, j2, j3, j4, j5⟩⟩
    · obtain ⟨v, hv, hx⟩ := hs.tmps t' x hx
      exact ⟨v, hv, Rep.mono q2 _ _ hx⟩

def okB (elem size : Nat) (b : ABlk) : Bool := b.gen == 0 && b.kind == 2 && b.elem == elem && b.size == size && b.inl
theorem okB_eq {elem size : Nat} {b : ABlk} (h : okB elem size b = true) : b = { gen := 0, kind := 2, elem, size, inl := true, rows := b.rows } := by
  obtain ⟨a, b, c, d, e, f⟩ := b
  simp only [okB, Bool.and_eq_true, beq_iff_eq] at h
  obtain ⟨⟨⟨⟨rfl, rfl⟩, rfl⟩, rfl⟩, rfl⟩ := h
  rfl
def rowB (elem size g : Nat) (rows : List (List AV)) : ABlk := { gen := g, kind := 2, elem, size, inl := true, rows }
/-- What 'slices.Clone' gives. -/
def cloneC (elem size bytes : Nat) : SpecFn := fun args B => match args, B with
  | [.nils], [] => some (.nils, [])
  | [.list s rows], [] => if s = size ∧ rows.length * bytes ≤ 140737488355328 ∧ rows.length ≤ 9223372036854775807 ∧ rows.length ≤ maxLen then some (.sl 0 0 0 rows.length, [rowB elem size 0 rows]) else none
  | [.sl 0 0 0 len], [b] => if okB elem size b = true ∧ len = b.rows.length ∧ len * bytes ≤ 140737488355328 ∧ len ≤ maxLen then some (.sl 1 0 0 len, [b, rowB elem size 0 b.rows]) else none
  | _, _ => none
/-- What 'slices.Delete' gives. -/
def deleteC (elem size : Nat) : SpecFn := fun args B => match args, B with
  | [.sl 0 0 0 len, .int .i64 i, .int .i64 j], [b] => if okB elem size b = true ∧ len = b.rows.length ∧ len ≤ 1000000 ∧ 0 ≤ i ∧ i < j ∧ j ≤ len then
      some (.sl 0 1 0 (i.toNat + (len - j.toNat)), [rowB elem size 1 (b.rows.take i.toNat ++ b.rows.drop j.toNat)]) else none
  | _, _ => none
/-- What 'slices.Insert' gives, of one element. -/
def insertC (elem size bytes : Nat) : SpecFn := fun args B => match args, B with
  | [.sl 0 0 0 len, .int .i64 i, .sl 1 0 0 1], [b, c] => if okB elem size b = true ∧ okB elem size c = true ∧ len = b.rows.length ∧ c.rows.length = 1 ∧ (len + 1) * bytes ≤ 140737488355328 ∧ len ≤ 1000000 ∧ 0 ≤ i ∧ i ≤ len then
      some (.sl 0 1 0 (len + 1), [rowB elem size 1 (b.rows.take i.toNat ++ c.rows ++ b.rows.drop i.toNat), c]) else none
  | _, _ => none
theorem delete_rows {α : Type} {l Z R D : List α} {i j m : Nat} (hi : i < j) (hj : j ≤ l.length) (hm : i + (l.length - j) = m) :
    (((l.take i ++ ((l.drop j).take (l.length - j) ++ D)).take m) ++ (Z ++ R)).take m = l.take i ++ l.drop j := by
  have h1 : (l.take i).length = i := by rw [List.length_take]; omega
  have h2 : (l.drop j).length = l.length - j := List.length_drop
  have h3 : (l.take i ++ l.drop j).length = m := by rw [List.length_append, h1, h2, hm]
  have h4 : ∀ (A B : List α) (n : Nat), A.length = n → (A ++ B).take n = A := fun A B n h => by rw [← h, List.take_left']; rfl
  have h5 : (l.drop j).take (l.length - j) = l.drop j := by rw [← h2, List.take_length]
  have h6 : l.take i ++ (l.drop j ++ D) = (l.take i ++ l.drop j) ++ D := (List.append_assoc ..).symm
  rw [h5, h6, h4 _ D _ h3, h4 _ _ _ h3]

/-! ### Functions of data that give data -/
def freezeH : NL ABlk → List Nat → NL ABlk
  | H, [] => H
  | H, i :: r => match lk H i with
    | some b => if b.kind = 2 then freezeH (st H i { b with kind := 1 }) r else freezeH H r
    | none => freezeH H r
theorem freezeH_env : ∀ (ids : List Nat) {H : NL ABlk} {E : Env}, E.H = lk H → HR E → ∃ E1, E1.w = E.w ∧ E1.H = lk (freezeH H ids) ∧ HR E1 ∧ Step E E1
  | [], H, E, hH, hr => ⟨E, rfl, hH, hr, Step.refl E⟩
  | i :: r, H, E, hH, hr => by
    simp only [freezeH]
    split
    · rename_i b hb
      split
      · rename_i hk
        obtain ⟨q1, q2⟩ := hr.freeze (id := i) (by rw [hH]; exact hb) hk
        obtain ⟨E2, f1, f2, f3, f4⟩ := freezeH_env r (H := st H i { b with kind := 1 }) (E := ⟨E.w, upd E.H i (some { b with kind := 1 }), E.φ, E.cs, E.F⟩) (by rw [lk_st_upd, hH]) q1
        exact ⟨E2, f1, f2, f3, q2.trans f4⟩
      · exact freezeH_env r hH hr
    · exact freezeH_env r hH hr
/-- The same function, told as one from data to data. -/
def pureS (S : SpecFn) : SpecFn := fun args B => match B with
  | [] => match S args [] with
    | some (r, B') => if inlT (nzT (freezeH (num 0 B') (List.range B'.length)) r) = true then some (nzT (freezeH (num 0 B') (List.range B'.length)) r, []) else none
    | none => none
  | _ => none
theorem FnC.pure {S : SpecFn} {f : FuncId} (hf : FnC P f S) : FnC P f (pureS S) := by
  refine ⟨hf.1, fun args B r B' hS E vs hH hr hx => ?_⟩
  unfold pureS at hS
  split at hS
  · split at hS
    · rename_i r0 B0 h0
      split at hS
      · rename_i hi
        simp only [Option.some.injEq, Prod.mk.injEq] at hS
        obtain ⟨rfl, rfl⟩ := hS
        refine (hf.calls args [] r0 B0 h0 E vs hH hr hx).mono fun e w' ⟨v, E1, h1, h2, h3, h4, h5, h6⟩ => ?_
        have hE0 : E.H = fun _ => none := by rw [hH]; funext i; simp
        obtain ⟨E2, k1, k2, k3, k4⟩ := freezeH_env (List.range B0.length) (H := num 0 B0) (E := E1) (by rw [h3]; funext i; simp [lk_num]) h4
        have hx2 := nzT_rep k2 k3 (Rep.mono k4 _ _ h6)
        have hI := inlT_rep hi hx2
        have hs := h5.trans k4
        have hold : ∀ b, b < E.w.heap.size → E2.w.heap[b]? = E.w.heap[b]? := fun b hb => hs.old b hb (fun id blk h => by simp [hE0] at h)
        refine ⟨v, ⟨E2.w, fun _ => none, E2.φ, E2.cs, E2.F⟩, h1, k1.trans h2, by funext i; simp, ⟨fun _ _ h => by simp at h, fun _ _ _ _ h => by simp at h, fun _ _ h => by simp at h, k3.fb⟩, ⟨hs.size, fun b hb _ => hold b hb, hs.fo, fun id blk h => by simp [hE0] at h, fun _ _ h => by simp at h, hs.kept⟩, ?_⟩
        exact RepI.rep _ _ (RepI.mono (fun b hb => ⟨⟨hb.1, hb.2.1, fun _ _ h => by simp at h⟩, rfl⟩) _ _ hI)
      · cases hS
    · cases hS
  · cases hS

/-! ### Loops that end at once, or after one round -/
theorem W.zero {c : Code} {Q : AS → Prop} {fs : List Fr} {σ : AS} (hc : c = .loop (cL c)) (h : W P Q (cL c) (.loop (fun _ => False) :: fs) σ) : W P Q c fs σ :=
  W.loop hc (ι := Unit) (fun _ => σ) (fun _ => 0) () (AS.le_refl σ) fun _ => ⟨h.h.mono fun e σ' hp => by
    cases e with
    | normal => simp only [post] at hp
    | _ => exact hp⟩
theorem W.once {c : Code} {Q : AS → Prop} {fs : List Fr} {σ : AS} (σ1 : AS) (hc : c = .loop (cL c)) (h0 : W P Q (cL c) (.loop (fun σ' => σ' = σ1) :: fs) σ) (h1 : W P Q (cL c) (.loop (fun _ => False) :: fs) σ1) : W P Q c fs σ := by
  refine W.loop hc (ι := Bool) (fun b => match b with
    | true => σ
    | false => σ1) (fun b => match b with
    | true => 1
    | false => 0) true (AS.le_refl σ) fun b => ?_
  cases b with
  | true =>
    refine ⟨h0.h.mono fun e σ' hp => ?_⟩
    cases e with
    | normal =>
      simp only [post] at hp ⊢
      subst hp
      exact ⟨false, by decide, AS.le_refl _⟩
    | _ => exact hp
  | false =>
    refine ⟨h1.h.mono fun e σ' hp => ?_⟩
    cases e with
    | normal =>
      simp only [post] at hp
    | _ => exact hp
@[simp] theorem w64_n0 : IntKind.i64.wrap 0 = 0 := by decide
@[simp] theorem w64_n1 : IntKind.i64.wrap 1 = 1 := by decide
@[simp] theorem w64_n2 : IntKind.i64.wrap 2 = 2 := by decide
@[simp] theorem w64_n3 : IntKind.i64.wrap 3 = 3 := by decide
@[simp] theorem w64_n4 : IntKind.i64.wrap 4 = 4 := by decide
@[simp] theorem w64_m1 : IntKind.i64.wrap (-1) = -1 := by decide
end Go.Abs
