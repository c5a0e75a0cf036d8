/- Functions whose blocks are in other places when they return: from the walk to the contract. Conditions: none. -/
import Derived.Test.YtidbfifednannaaAbsW
namespace Go.Abs
open Go
set_option linter.unusedSimpArgs false
set_option linter.unusedVariables false
variable {P : Program}
theorem FnC.walkM {α : Type} {enc : α → List AV × List ABlk} {res : α → AV × List ABlk} (f : FuncId) {fn : Func} (hf : P.funcs[f]? = some fn) (hb : fn.body = some (codeOf fn)) (hname : (fn.name == "runtime.NumGoroutine") = false)
    (hg : ∀ x, ∀ b ∈ (enc x).2, b.gen = 0) (h : ∀ x, W P (RetM P fn (enc x).2.length (res x).1 (res x).2) (codeOf fn) [] (init2 fn (enc x).1 (enc x).2)) : FnC P f (mkS2 enc res) := by
  refine ⟨⟨fn, hf, hname, by simp [hb]⟩, fun args B r B' hS E vs hH hr hx => ?_⟩
  unfold mkS2 at hS
  split at hS
  · rename_i hex
    simp only [Option.some.injEq] at hS
    have hw := h hex.choose
    have hg' := hg hex.choose
    rw [hex.choose_spec, hS] at hw
    rw [hex.choose_spec] at hg'
    simp only at hw hg'
    have hsz : vs.size = args.length := by have := hx.length; simpa using this
    have hsr : SR (init2 fn args B) { tmps := vs ++ Array.replicate (fn.ntmps - vs.size) undef, defers := [] } E := by
      refine ⟨by rw [hH]; funext i; simp [init2, lk_num], hr, rfl, by simp [init2, hsz], fun t x ht => ?_⟩
      simp only [init2, lk_num, Nat.zero_le, if_true, Nat.sub_zero] at ht
      obtain ⟨v, hv, hxv⟩ := hx.get ht
      refine ⟨v, ?_, hxv⟩
      have hlt : t < vs.size := by rw [hsz]; exact (List.getElem?_eq_some_iff.1 ht).1
      rw [Array.getElem?_append_left hlt]
      simpa using hv
    refine calls_of_wp hf hb (wp_mono (hw.h.run hsr) fun e a' w' hp => ?_)
    obtain ⟨σ', E1, rfl, h1, h2, he, xs, hxs, fz, out, ho, exp, gs, q1, q1b, q2, q2b, q3, rfl⟩ := hp
    obtain ⟨v, g1, g2⟩ := resVs_run h1 hxs
    obtain ⟨E2, k1, k2, k3, k4, k5⟩ := frqT_run h1.heap h1.hr g2 ho
    obtain ⟨E3, m1, m2, m3, m4, m5⟩ := export_envM hH hg' k2 k3 (h2.trans k4) q1 q1b q2 q2b q3
    have hfinal : bodyPost P fn (fun e w' => ∃ v E', e = .returned v ∧ E'.w = w' ∧ E'.H = (fun i => B'[i]?) ∧ HR E' ∧ Step E E' ∧ Rep E' (out.val.ren (expG exp gs out.H)) v) .ret a' E1.w :=
      ⟨h1.defers, v, g1, v, E3, rfl, m1.trans k1, m2, m3, m4, ren_rep m5 _ _ k5⟩
    rcases he with rfl | rfl
    · exact hfinal
    · exact hfinal
  · cases hS

theorem FnC.walkMV {α : Type} {enc : α → List AV × List ABlk} {res : α → AV × List ABlk} (f : FuncId) {fn : Func} (hf : P.funcs[f]? = some fn) (hb : fn.body = some (codeOf fn)) (hname : (fn.name == "runtime.NumGoroutine") = false)
    (hg : ∀ x, ∀ b ∈ (enc x).2, b.gen = 0) (h : ∀ x, V P (RetM P fn (enc x).2.length (res x).1 (res x).2) (codeOf fn) [] (init2 fn (enc x).1 (enc x).2)) : FnC P f (mkS2 enc res) := by
  refine ⟨⟨fn, hf, hname, by simp [hb]⟩, fun args B r B' hS E vs hH hr hx => ?_⟩
  unfold mkS2 at hS
  split at hS
  · rename_i hex
    simp only [Option.some.injEq] at hS
    have hw := h hex.choose
    have hg' := hg hex.choose
    rw [hex.choose_spec, hS] at hw
    rw [hex.choose_spec] at hg'
    simp only at hw hg'
    have hsz : vs.size = args.length := by have := hx.length; simpa using this
    have hsr : SR (init2 fn args B) { tmps := vs ++ Array.replicate (fn.ntmps - vs.size) undef, defers := [] } E := by
      refine ⟨by rw [hH]; funext i; simp [init2, lk_num], hr, rfl, by simp [init2, hsz], fun t x ht => ?_⟩
      simp only [init2, lk_num, Nat.zero_le, if_true, Nat.sub_zero] at ht
      obtain ⟨v, hv, hxv⟩ := hx.get ht
      refine ⟨v, ?_, hxv⟩
      have hlt : t < vs.size := by rw [hsz]; exact (List.getElem?_eq_some_iff.1 ht).1
      rw [Array.getElem?_append_left hlt]
      simpa using hv
    refine calls_of_wp hf hb (wp_mono (hw.h _ _ hsr) fun e a' w' hp => ?_)
    obtain ⟨σ', E1, rfl, h1, h2, he, xs, hxs, fz, out, ho, exp, gs, q1, q1b, q2, q2b, q3, rfl⟩ := hp
    obtain ⟨v, g1, g2⟩ := resVs_run h1 hxs
    obtain ⟨E2, k1, k2, k3, k4, k5⟩ := frqT_run h1.heap h1.hr g2 ho
    obtain ⟨E3, m1, m2, m3, m4, m5⟩ := export_envM hH hg' k2 k3 (h2.trans k4) q1 q1b q2 q2b q3
    have hfinal : bodyPost P fn (fun e w' => ∃ v E', e = .returned v ∧ E'.w = w' ∧ E'.H = (fun i => B'[i]?) ∧ HR E' ∧ Step E E' ∧ Rep E' (out.val.ren (expG exp gs out.H)) v) .ret a' E1.w :=
      ⟨h1.defers, v, g1, v, E3, rfl, m1.trans k1, m2, m3, m4, ren_rep m5 _ _ k5⟩
    rcases he with rfl | rfl
    · exact hfinal
    · exact hfinal
  · cases hS

/-! ### Slices that may be nil -/
theorem VP.env {c : Code} {Q : Exit → AS → Prop} {σ σ1 : AS} (h : ∀ a E, SR σ a E → ∃ E1, E1.w = E.w ∧ Step E E1 ∧ SR σ1 a E1) (h1 : VP P c Q σ1) : VP P c Q σ := fun a E hs => by
  obtain ⟨E1, e1, e2, e3⟩ := h a E hs
  rw [← e1]
  exact wp_mono (h1 a E1 e3) fun e a' w' ⟨σ', E', k1, k2, k3, k4⟩ => ⟨σ', E', k1, k2, e2.trans k3, k4⟩
theorem V.env {c : Code} {Q : AS → Prop} {fs : List Fr} {σ σ1 : AS} (h : ∀ a E, SR σ a E → ∃ E1, E1.w = E.w ∧ Step E E1 ∧ SR σ1 a E1) (h1 : V P Q c fs σ1) : V P Q c fs σ := ⟨VP.env h h1.h⟩
/-- A nil slice, told as a block without rows. -/
theorem phantom_env {n t : Nat} {ts : NL AV} {H : NL ABlk} (id elem size : Nat) (inl : Bool) (ht : lk ts t = some .nils) (hid : lk H id = none) (h0 : 0 < size) :
    ∀ a E, SR ⟨n, ts, H⟩ a E → ∃ E1, E1.w = E.w ∧ Step E E1 ∧ SR ⟨n, (t, .sl id 0 0 0) :: ts, (id, { gen := 0, kind := 2, elem, size, inl, rows := [] }) :: H⟩ a E1 := fun a E hs => by
  have hn : E.H id = none := by rw [hs.heap]; exact hid
  obtain ⟨h1, h2⟩ := hs.hr.phantom (id := id) (blk := { gen := 0, kind := 2, elem, size, inl, rows := [] }) rfl (fun old ho => by rw [hn] at ho; cases ho) h0 rfl
  refine ⟨⟨E.w, upd E.H id (some { gen := 0, kind := 2, elem, size, inl, rows := [] }), E.φ, upd E.cs id 0, E.F⟩, rfl, h2, ?_, h1, hs.defers, hs.size, fun t' x hx => ?_⟩
  · funext i
    by_cases e : id = i
    · subst e; simp [lk, upd_same]
    · simp only [lk, upd_other _ _ _ e, hs.heap, if_neg e]
  · simp only [lk] at hx
    split at hx
    · rename_i e
      subst e
      simp only [Option.some.injEq] at hx
      subst hx
      obtain ⟨v, hv, hx⟩ := hs.tmps t _ ht
      simp only [Rep] at hx
      subst hx
      refine ⟨_, hv, ?_⟩
      simp only [Rep, upd_same]
      exact ⟨_, none, 0, 0, rfl, Nat.le_refl _, rfl, fun _ => ⟨.inr rfl, rfl, Nat.le_refl _, Nat.zero_le _, fun h => absurd h (by omega)⟩⟩
    · obtain ⟨v, hv, hx⟩ := hs.tmps t' x hx
      exact ⟨v, hv, Rep.mono h2 _ _ hx⟩
theorem V.phantom {c : Code} {Q : AS → Prop} {fs : List Fr} {n t : Nat} {ts : NL AV} {H : NL ABlk} (id elem size : Nat) (ht : lk ts t = some .nils) (hid : lk H id = none) (h0 : 0 < size)
    (h : V P Q c fs ⟨n, (t, .sl id 0 0 0) :: ts, (id, { gen := 0, kind := 2, elem, size, inl := true, rows := [] }) :: H⟩) : V P Q c fs ⟨n, ts, H⟩ := V.env (phantom_env id elem size true ht hid h0) h
theorem WP.env {c : Code} {Q : Exit → AS → Prop} {σ σ1 : AS} (h : ∀ a E, SR σ a E → ∃ E1, E1.w = E.w ∧ Step E E1 ∧ SR σ1 a E1) (h1 : WP P c Q σ1) : WP P c Q σ := fun ⟨a, E, hs⟩ => by
  obtain ⟨E1, e1, e2, e3⟩ := h a E hs
  obtain ⟨e, τ, hq, hx⟩ := h1 ⟨a, E1, e3⟩
  refine ⟨e, τ, hq, fun a E hs => ?_⟩
  obtain ⟨E1, e1, e2, e3⟩ := h a E hs
  rw [← e1]
  exact wp_mono (hx a E1 e3) fun e a' w' ⟨σ', E', k1, k2, k3, k4⟩ => ⟨σ', E', k1, k2, e2.trans k3, k4⟩
theorem W.env {c : Code} {Q : AS → Prop} {fs : List Fr} {σ σ1 : AS} (h : ∀ a E, SR σ a E → ∃ E1, E1.w = E.w ∧ Step E E1 ∧ SR σ1 a E1) (h1 : W P Q c fs σ1) : W P Q c fs σ := ⟨WP.env h h1.h⟩
theorem frz_env {n t : Nat} {ts : NL AV} {H H' : NL ABlk} {x x' : AV} {rd wr : List Nat} {A : Prop} (ht : lk ts t = some x) (hf : (frqT true x).run H = some ⟨x', H', rd, wr, A⟩) :
    ∀ a E, SR ⟨n, ts, H⟩ a E → ∃ E1, E1.w = E.w ∧ Step E E1 ∧ SR ⟨n, (t, x') :: ts, H'⟩ a E1 := fun a E hs => by
  obtain ⟨v, hv, hx⟩ := hs.tmps t _ ht
  obtain ⟨E1, h1, h2, h3, h4, h5⟩ := frqT_run hs.heap hs.hr hx hf
  refine ⟨E1, h1, h4, h2, h3, hs.defers, hs.size, fun t' y hy => ?_⟩
  simp only [lk] at hy
  split at hy
  · rename_i e
    subst e
    simp only [Option.some.injEq] at hy
    subst hy
    exact ⟨v, hv, h5⟩
  · obtain ⟨v, hv, hx⟩ := hs.tmps t' y hy
    exact ⟨v, hv, Rep.mono h4 _ _ hx⟩
/-- What is written no more is told as data. -/
theorem W.frz {c : Code} {Q : AS → Prop} {fs : List Fr} {n : Nat} (t : Nat) {ts : NL AV} {H H' : NL ABlk} {x x' : AV} {rd wr : List Nat} {A : Prop} (ht : lk ts t = some x) (hf : (frqT true x).run H = some ⟨x', H', rd, wr, A⟩)
    (h : W P Q c fs ⟨n, (t, x') :: ts, H'⟩) : W P Q c fs ⟨n, ts, H⟩ := W.env (frz_env ht hf) h
theorem V.frz {c : Code} {Q : AS → Prop} {fs : List Fr} {n : Nat} (t : Nat) {ts : NL AV} {H H' : NL ABlk} {x x' : AV} {rd wr : List Nat} {A : Prop} (ht : lk ts t = some x) (hf : (frqT true x).run H = some ⟨x', H', rd, wr, A⟩)
    (h : V P Q c fs ⟨n, (t, x') :: ts, H'⟩) : V P Q c fs ⟨n, ts, H⟩ := V.env (frz_env ht hf) h
theorem W.phantom {c : Code} {Q : AS → Prop} {fs : List Fr} {n t : Nat} {ts : NL AV} {H : NL ABlk} (id elem size : Nat) (inl : Bool) (ht : lk ts t = some .nils) (hid : lk H id = none) (h0 : 0 < size)
    (h : W P Q c fs ⟨n, (t, .sl id 0 0 0) :: ts, (id, { gen := 0, kind := 2, elem, size, inl, rows := [] }) :: H⟩) : W P Q c fs ⟨n, ts, H⟩ := W.env (phantom_env id elem size inl ht hid h0) h
/-- A slice whose capacity is forgotten. -/
theorem V.uncap {c : Code} {Q : AS → Prop} {fs : List Fr} {n t id g off len cap : Nat} {ts : NL AV} {H : NL ABlk} (ht : lk ts t = some (.slc id g off len cap)) (h : V P Q c fs ⟨n, (t, .sl id g off len) :: ts, H⟩) : V P Q c fs ⟨n, ts, H⟩ := by
  refine V.env (fun a E hs => ⟨E, rfl, Step.refl E, ?_⟩) h
  refine ⟨hs.heap, hs.hr, hs.defers, hs.size, fun t' x hx => ?_⟩
  simp only [lk] at hx
  split at hx
  · rename_i e
    subst e
    simp only [Option.some.injEq] at hx
    subst hx
    obtain ⟨v, hv, hx⟩ := hs.tmps t _ ht
    refine ⟨v, hv, ?_⟩
    simp only [Rep] at hx ⊢
    obtain ⟨blk, a, len', cap', h1, h2, rfl, h3⟩ := hx
    refine ⟨blk, a, len', cap', h1, h2, rfl, fun hg => ?_⟩
    obtain ⟨k1, k2, rfl, k4⟩ := h3 hg
    exact ⟨k1, k2, k4⟩
  · exact hs.tmps t' x hx
/-- A list without rows is nil or is not. -/
theorem V.nilCase {c : Code} {Q : AS → Prop} {fs : List Fr} {n t s : Nat} {ts : NL AV} {H : NL ABlk} (id : Nat) (ht : lk ts t = some (.list s [])) (hid : lk H id = none)
    (h1 : V P Q c fs ⟨n, (t, .nils) :: ts, H⟩) (h2 : V P Q c fs ⟨n, (t, .psl id 0 0 0 0) :: ts, (id, { gen := 1 }) :: H⟩) : V P Q c fs ⟨n, ts, H⟩ := by
  refine ⟨fun a E hs => ?_⟩
  obtain ⟨v, hv, hx⟩ := hs.tmps t _ ht
  simp only [Rep, RepI] at hx
  rcases hx with ⟨rfl, _⟩ | ⟨ad, cap, rfl, _⟩
  · refine h1.h a E ⟨hs.heap, hs.hr, hs.defers, hs.size, fun t' x hx => ?_⟩
    simp only [lk] at hx
    split at hx
    · rename_i e
      subst e
      simp only [Option.some.injEq] at hx
      subst hx
      exact ⟨_, hv, rfl⟩
    · exact hs.tmps t' x hx
  · have hn : E.H id = none := by rw [hs.heap]; exact hid
    have hst : Step E ⟨E.w, upd E.H id (some { gen := 1 }), E.φ, E.cs, E.F⟩ := by
      refine ⟨Nat.le_refl _, fun b _ _ => rfl, rfl, fun k b hb => ?_, fun k b' hb hk' hc' => ?_, Kept.refl _⟩
      · have e : id ≠ k := fun e => by subst e; rw [hn] at hb; cases hb
        exact ⟨b, by simp [upd_other _ _ _ e, hb], Nat.le_refl _, fun _ _ => ⟨.inl rfl, rfl, rfl, rfl, rfl⟩⟩
      · by_cases e : id = k
        · subst e; simp only [upd_same, Option.some.injEq] at hb; subst hb; simp at hk'
        · exact .inl ⟨b', by simpa [upd_other _ _ _ e] using hb, hk', hc', rfl⟩
    have hex : ∀ k b, upd E.H id (some { gen := 1 }) k = some b → b.kind ≠ 0 → E.H k = some b := by
      intro k b h hk
      by_cases e : id = k
      · subst e; simp only [upd_same, Option.some.injEq] at h; subst h; exact absurd rfl hk
      · simpa [upd_other _ _ _ e] using h
    have hr' : HR ⟨E.w, upd E.H id (some { gen := 1 }), E.φ, E.cs, E.F⟩ := by
      refine ⟨fun k b hb => ?_, fun i j bi bj hi hj ki kj ci cj hne => ?_, fun k b hb hk hc => ?_, hs.hr.fb⟩
      · by_cases e : id = k
        · subst e
          simp only [upd_same, Option.some.injEq] at hb
          subst hb
          simp [BlkOK]
        · simp only [upd_other _ _ _ e] at hb
          exact BlkOK.mono hst rfl rfl (fun _ _ => rfl) (hs.hr.blk k b hb)
      · exact hs.hr.inj i j bi bj (hex i bi hi ki) (hex j bj hj kj) ki kj ci cj hne
      · exact hs.hr.nf k b (hex k b hb hk) hk hc
    have := h2.h a ⟨E.w, upd E.H id (some { gen := 1 }), E.φ, E.cs, E.F⟩ ⟨?_, hr', hs.defers, hs.size, fun t' x hx => ?_⟩
    · exact wp_mono this fun e a' w' ⟨σ', E', k1, k2, k3, k4⟩ => ⟨σ', E', k1, k2, hst.trans k3, k4⟩
    · funext i
      by_cases e : id = i
      · subst e; simp [lk, upd_same]
      · simp only [lk, upd_other _ _ _ e, hs.heap, if_neg e]
    · simp only [lk] at hx
      split at hx
      · rename_i e
        subst e
        simp only [Option.some.injEq] at hx
        subst hx
        refine ⟨_, hv, ?_⟩
        simp only [Rep, upd_same]
        exact ⟨_, _, _, rfl, Nat.zero_le _, rfl, fun h => by simp at h⟩
      · obtain ⟨v, hv, hx⟩ := hs.tmps t' x hx
        exact ⟨v, hv, Rep.mono hst _ _ hx⟩
end Go.Abs
