/- Walks that hold of every run, so that a run's own capacities may be told apart. Conditions: none. -/
import Derived.Test.YtidbfifednannaaAbsV
namespace Go.Abs
open Go
variable {P : Program}

/-- Every run from a state that 'σ' tells ends in some state of which 'Q' holds. -/
def VP (P : Program) (c : Code) (Q : Exit → AS → Prop) (σ : AS) : Prop := ∀ (a : Act) (E : Env), SR σ a E → c.wp P (Post E Q) a E.w
theorem WP.vp {c : Code} {Q : Exit → AS → Prop} {σ : AS} (h : WP P c Q σ) : VP P c Q σ := fun _ _ hs => h.run hs
theorem Post.mono {E : Env} {Q Q' : Exit → AS → Prop} (hq : ∀ e σ, Q e σ → Q' e σ) {e : Exit} {a : Act} {w : World} (h : Post E Q e a w) : Post E Q' e a w := by
  obtain ⟨σ', E', h1, h2, h3, h4⟩ := h
  exact ⟨σ', E', h1, h2, h3, hq _ _ h4⟩
theorem VP.mono {c : Code} {Q Q' : Exit → AS → Prop} {σ : AS} (h : VP P c Q σ) (hq : ∀ e σ, Q e σ → Q' e σ) : VP P c Q' σ := fun a E hs => wp_mono (h a E hs) fun _ _ _ hp => Post.mono hq hp
theorem VP.weak {c : Code} {Q : Exit → AS → Prop} {σ σ' : AS} (hl : AS.le σ' σ) (h : VP P c Q σ') : VP P c Q σ := fun a E hs => h a E (hs.le hl)
theorem VP.seq {x y : Code} {Q : Exit → AS → Prop} {σ : AS} (h : VP P x (fun e σ' => match e with
    | .normal => VP P y Q σ'
    | e => Q e σ') σ) : VP P (.seq x y) Q σ := fun a E hs => by
  refine wp_seq (wp_mono (h a E hs) fun e a' w' hp => ?_)
  obtain ⟨σ', E', rfl, k1, k2, k3⟩ := hp
  cases e with
  | normal =>
    refine wp_mono (k3 a' E' k1) fun e a'' w'' hp => ?_
    obtain ⟨σ'', E'', rfl, g1, g2, g3⟩ := hp
    exact ⟨σ'', E'', rfl, g1, k2.trans g2, g3⟩
  | _ => exact ⟨σ', E', rfl, k1, k2, k3⟩
theorem VP.block {id : Nat} {x : Code} {Q : Exit → AS → Prop} {σ : AS} (h : VP P x (fun e σ' => match e with
    | .exit i => if i = id then Q .normal σ' else Q (.exit i) σ'
    | e => Q e σ') σ) : VP P (.block id x) Q σ := fun a E hs => by
  refine wp_block (wp_mono (h a E hs) fun e a' w' hp => ?_)
  obtain ⟨σ', E', rfl, h1, h2, h3⟩ := hp
  cases e with
  | exit i =>
    simp only [Exit.inBlock]
    simp only at h3
    split
    · rename_i e; rw [if_pos e] at h3; exact ⟨σ', E', rfl, h1, h2, h3⟩
    · rename_i e; rw [if_neg e] at h3; exact ⟨σ', E', rfl, h1, h2, h3⟩
  | _ => exact ⟨σ', E', rfl, h1, h2, h3⟩
theorem VP.cond {c : Operand} {x y : Code} {b : Bool} {Q : Exit → AS → Prop} {σ : AS} (hc : σ.ev c = .bool b) (ht : b = true → VP P x Q σ) (hf : b = false → VP P y Q σ) : VP P (.cond c x y) Q σ := fun a E hs => by
  have h := hs.ev c
  rw [hc] at h
  simp only [Rep] at h
  exact wp_cond_split h (fun e => ht e a E hs) (fun e => hf e a E hs)
theorem VP.loop {x : Code} {Q : Exit → AS → Prop} {ι : Type} (J : ι → AS) (m : ι → Nat)
    (step : ∀ i, VP P x (fun e σ' => match e with
      | .normal => ∃ j, m j < m i ∧ AS.le (J j) σ'
      | e => Q e σ') (J i)) {σ : AS} (i : ι) (h0 : AS.le (J i) σ) : VP P (.loop x) Q σ := by
  have key : ∀ (n : Nat) (i : ι), m i < n → ∀ (a : Act) (E0 E : Env), Step E0 E → SR (J i) a E → Code.rounds P x (Post E0 Q) n a E.w := by
    intro n
    induction n with
    | zero => intro i h; omega
    | succ n ih =>
      intro i hi a E0 E hst hs
      rw [rounds_succ]
      refine wp_mono (step i a E hs) fun e a'' w'' hp => ?_
      obtain ⟨σ2, E2, rfl, k1, k2, k3⟩ := hp
      cases e with
      | normal =>
        obtain ⟨j, hj, hle⟩ := k3
        exact ih j (by omega) a'' E0 E2 (hst.trans k2) (k1.le hle)
      | _ => exact ⟨_, E2, rfl, k1, hst.trans k2, k3⟩
  exact fun a E hs => wp_loop_rounds (m i + 1) (key (m i + 1) i (by omega) a E E (Step.refl E) (hs.le h0))

def postV (P : Program) (Q : AS → Prop) : List Fr → Exit → AS → Prop
  | [], e, σ => (e = .normal ∨ e = .ret) ∧ Q σ
  | .seq y :: fs, e, σ => match e with
    | .normal => VP P y (postV P Q fs) σ
    | e => postV P Q fs e σ
  | .blk id :: fs, e, σ => match e with
    | .exit i => if i = id then postV P Q fs .normal σ else postV P Q fs (.exit i) σ
    | e => postV P Q fs e σ
  | .loop b :: fs, e, σ => match e with
    | .normal => b σ
    | e => postV P Q fs e σ
structure V (P : Program) (Q : AS → Prop) (c : Code) (fs : List Fr) (σ : AS) : Prop where
  h : VP P c (postV P Q fs) σ
structure NV (P : Program) (Q : AS → Prop) (fs : List Fr) (σ : AS) : Prop where
  h : postV P Q fs .normal σ
structure XV (P : Program) (Q : AS → Prop) (i : Nat) (fs : List Fr) (σ : AS) : Prop where
  h : postV P Q fs (.exit i) σ
variable {Q : AS → Prop}
theorem postV_ret : ∀ (fs : List Fr) (σ : AS), Q σ → postV P Q fs .ret σ
  | [], _, h => ⟨.inr rfl, h⟩
  | .seq _ :: fs, σ, h => postV_ret fs σ h
  | .blk _ :: fs, σ, h => postV_ret fs σ h
  | .loop _ :: fs, σ, h => postV_ret fs σ h
theorem NV.nil {σ : AS} (h : Q σ) : NV P Q [] σ := ⟨.inl rfl, h⟩
theorem NV.seq {y : Code} {fs : List Fr} {σ : AS} (h : V P Q y fs σ) : NV P Q (.seq y :: fs) σ := ⟨h.h⟩
theorem NV.blk {id : Nat} {fs : List Fr} {σ : AS} (h : NV P Q fs σ) : NV P Q (.blk id :: fs) σ := ⟨h.h⟩
theorem NV.loop {b : AS → Prop} {fs : List Fr} {σ : AS} (h : b σ) : NV P Q (.loop b :: fs) σ := ⟨h⟩
theorem XV.seq {i : Nat} {y : Code} {fs : List Fr} {σ : AS} (h : XV P Q i fs σ) : XV P Q i (.seq y :: fs) σ := ⟨h.h⟩
theorem XV.loop {i : Nat} {b : AS → Prop} {fs : List Fr} {σ : AS} (h : XV P Q i fs σ) : XV P Q i (.loop b :: fs) σ := ⟨h.h⟩
theorem XV.hit {i : Nat} {fs : List Fr} {σ : AS} (h : NV P Q fs σ) : XV P Q i (.blk i :: fs) σ := by
  refine ⟨?_⟩
  simp only [postV, if_true]
  exact h.h
theorem XV.pass {i j : Nat} {fs : List Fr} {σ : AS} (hne : i ≠ j) (h : XV P Q i fs σ) : XV P Q i (.blk j :: fs) σ := by
  refine ⟨?_⟩
  simp only [postV, if_neg hne]
  exact h.h
theorem V.seq {c : Code} {fs : List Fr} {σ : AS} (hc : c = .seq (cL c) (cR c)) (h : V P Q (cL c) (.seq (cR c) :: fs) σ) : V P Q c fs σ := by
  refine ⟨?_⟩
  rw [hc]
  exact VP.seq (h.h.mono fun e σ h => by cases e <;> exact h)
theorem V.seqR {c : Code} {fs : List Fr} {σ : AS} {id : Nat} {ops : Array Oper} {d : Bool} (hc : c = .seq (cL c) (cR c)) (_ : cL c = .region id ops d) (h : V P Q (cL c) (.seq (cR c) :: fs) σ) : V P Q c fs σ := V.seq hc h
theorem V.block {c : Code} {fs : List Fr} {σ : AS} {id : Nat} (hc : c = .block id (cL c)) (h : V P Q (cL c) (.blk id :: fs) σ) : V P Q c fs σ := by
  refine ⟨?_⟩
  rw [hc]
  exact VP.block (h.h.mono fun e σ h => by cases e <;> exact h)
theorem V.skip {c : Code} {fs : List Fr} {σ : AS} (hc : c = .skip) (h : NV P Q fs σ) : V P Q c fs σ := by
  refine ⟨?_⟩
  rw [hc]
  exact (WP.skip h.h).vp
theorem V.exit {c : Code} {fs : List Fr} {σ : AS} {i : Nat} (hc : c = .exit i) (h : XV P Q i fs σ) : V P Q c fs σ := by
  refine ⟨?_⟩
  rw [hc]
  exact (WP.exit h.h).vp
theorem V.ret {c : Code} {fs : List Fr} {σ : AS} (hc : c = .ret) (h : Q σ) : V P Q c fs σ := by
  refine ⟨?_⟩
  rw [hc]
  exact (WP.ret (postV_ret fs σ h)).vp
theorem V.cond {c : Code} {fs : List Fr} {σ : AS} {t : Nat} {b : Bool} (hc : c = .cond (.tmp t) (cL c) (cR c)) (hv : lk σ.tmps t = some (.bool b)) (ht : b = true → V P Q (cL c) fs σ) (hf : b = false → V P Q (cR c) fs σ) : V P Q c fs σ := by
  refine ⟨?_⟩
  rw [hc]
  exact VP.cond (by simp [AS.ev, hv]) (fun e => (ht e).h) (fun e => (hf e).h)
theorem V.condT {c : Code} {fs : List Fr} {σ : AS} {t : Nat} (hc : c = .cond (.tmp t) (cL c) (cR c)) (hv : lk σ.tmps t = some (.bool true)) (ht : V P Q (cL c) fs σ) : V P Q c fs σ :=
  V.cond hc hv (fun _ => ht) (fun h => by cases h)
theorem V.condF {c : Code} {fs : List Fr} {σ : AS} {t : Nat} (hc : c = .cond (.tmp t) (cL c) (cR c)) (hv : lk σ.tmps t = some (.bool false)) (hf : V P Q (cR c) fs σ) : V P Q c fs σ :=
  V.cond hc hv (fun h => by cases h) (fun _ => hf)
theorem V.region {specs : NL Spec} (hm : P.follows .mixedOrders = true) (hsp : ∀ p ∈ specs, FnC P p.1 p.2.fn) {c : Code} {fs : List Fr} {id : Nat} {ops : Array Oper} (hc : c = .region id ops false) {σ σ' : AS} {A : Prop}
    (hr : runL P (specOf specs) 0 ops ops.toList σ = some (σ', A)) (h : A → NV P Q fs σ') : V P Q c fs σ := by
  refine ⟨?_⟩
  rw [hc]
  exact (WP.region (draw := false) hm (specOf_ok hsp) hr fun hA => (h hA).h).vp
theorem V.regionD {specs : NL Spec} (hm : P.follows .mixedOrders = true) (hsp : ∀ p ∈ specs, FnC P p.1 p.2.fn) {c : Code} {fs : List Fr} {id : Nat} {ops : Array Oper} (hc : c = .region id ops true) {σ σ' : AS} {fps : List FP} {rw' : List (List Nat × List Nat)}
    (hr : runF P (specOf specs) 0 ops ops.toList σ = some (σ', fps)) (hrw : (fps.map fun f => (f.rd, f.wr)) = rw') (ho : drawOK ops rw' = true) (h : asAll fps → NV P Q fs σ') : V P Q c fs σ := by
  refine ⟨?_⟩
  rw [hc]
  refine (WP.region (kk := 0) hm (specOf_ok hsp) (A := asAll fps) ?_ fun hA => (h hA).h).vp
  subst hrw
  unfold drawOK at ho
  simp only [runR, runD]
  split at ho
  · rename_i l hl
    simp only [hl, hr]
    rw [if_pos]
    rw [← ho]
    congr 1
    funext p
    rw [fp_getD, fp_getD]
    rfl
  · cases ho
theorem V.loop {c : Code} {fs : List Fr} {σ : AS} (hc : c = .loop (cL c)) {ι : Type} (J : ι → AS) (m : ι → Nat) (i : ι) (h0 : AS.le (J i) σ)
    (step : ∀ i, V P Q (cL c) (.loop (fun σ' => ∃ j, m j < m i ∧ AS.le (J j) σ') :: fs) (J i)) : V P Q c fs σ := by
  refine ⟨?_⟩
  rw [hc]
  exact VP.loop J m (fun i => (step i).h.mono fun e σ h => by cases e <;> exact h) i h0
theorem V.weak {c : Code} {fs : List Fr} {σ σ' : AS} (hl : AS.le σ' σ) (h : V P Q c fs σ') : V P Q c fs σ := ⟨VP.weak hl h.h⟩
/-- A slice's own capacity. -/
theorem V.caps {c : Code} {fs : List Fr} {n t id g off len : Nat} {ts : NL AV} {H : NL ABlk} {blk : ABlk} (ht : lk ts t = some (.sl id g off len)) (hb : lk H id = some blk) (hg : blk.gen = g)
    (h : ∀ cap, len ≤ cap → cap ≤ maxLen → V P Q c fs ⟨n, (t, .slc id g off len cap) :: ts, H⟩) : V P Q c fs ⟨n, ts, H⟩ := by
  refine ⟨fun a E hs => ?_⟩
  obtain ⟨v, hv, hx⟩ := hs.tmps t _ ht
  simp only [Rep] at hx
  obtain ⟨b, ad, len', cap, h1, h2, h3, h4⟩ := hx
  have hbb : b = blk := by
    have : E.H id = some blk := by rw [hs.heap]; exact hb
    rw [this] at h1; cases h1; rfl
  subst hbb
  obtain ⟨k1, k2, k3, k4, k5⟩ := h4 hg
  refine (h cap k3 k4).h a E ⟨hs.heap, hs.hr, hs.defers, hs.size, fun t' x hx => ?_⟩
  simp only [lk] at hx
  split at hx
  · rename_i e
    subst e
    simp only [Option.some.injEq] at hx
    subst hx
    refine ⟨v, hv, ?_⟩
    simp only [Rep]
    exact ⟨b, ad, len', cap, h1, h2, h3, fun _ => ⟨k1, k2, rfl, k3, k4, k5⟩⟩
  · exact hs.tmps t' x hx
theorem FnC.walkV {α : Type} {enc : α → List AV × List ABlk} {res : α → AV × List ABlk} (f : FuncId) {fn : Func} (hf : P.funcs[f]? = some fn) (hb : fn.body = some (codeOf fn)) (hname : (fn.name == "runtime.NumGoroutine") = false)
    (hg : ∀ x, ∀ b ∈ (enc x).2, b.gen = 0) (h : ∀ x, V P (RetB P fn (enc x).2.length (res x).1 (res x).2) (codeOf fn) [] (init2 fn (enc x).1 (enc x).2)) : FnC P f (mkS2 enc res) := by
  refine ⟨⟨fn, hf, hname, by simp [hb]⟩, fun args B r B' hS E vs hH hr hx => ?_⟩
  unfold mkS2 at hS
  split at hS
  · rename_i hex
    simp only [Option.some.injEq] at hS
    have hw := h hex.choose
    have hg' := hg hex.choose
    rw [hex.choose_spec, hS] at hw
    rw [hex.choose_spec] at hg'
    simp only at hw hg'
    have hsz : vs.size = args.length := by have := hx.length; simpa using this
    have hsr : SR (init2 fn args B) { tmps := vs ++ Array.replicate (fn.ntmps - vs.size) undef, defers := [] } E := by
      refine ⟨by rw [hH]; funext i; simp [init2, lk_num], hr, rfl, by simp [init2, hsz], fun t x ht => ?_⟩
      simp only [init2, lk_num, Nat.zero_le, if_true, Nat.sub_zero] at ht
      obtain ⟨v, hv, hxv⟩ := hx.get ht
      refine ⟨v, ?_, hxv⟩
      have hlt : t < vs.size := by rw [hsz]; exact (List.getElem?_eq_some_iff.1 ht).1
      rw [Array.getElem?_append_left hlt]
      simpa using hv
    refine calls_of_wp hf hb (wp_mono (hw.h _ _ hsr) fun e a' w' hp => ?_)
    obtain ⟨σ', E1, rfl, h1, h2, he, xs, hxs, fz, out, ho, exp, q1, q2, q3, rfl⟩ := hp
    obtain ⟨v, g1, g2⟩ := resVs_run h1 hxs
    obtain ⟨E2, k1, k2, k3, k4, k5⟩ := frqT_run h1.heap h1.hr g2 ho
    obtain ⟨E3, m1, m2, m3, m4, m5⟩ := export_envB hH hg' k2 k3 (h2.trans k4) q1 q2 q3
    have hfinal : bodyPost P fn (fun e w' => ∃ v E', e = .returned v ∧ E'.w = w' ∧ E'.H = (fun i => B'[i]?) ∧ HR E' ∧ Step E E' ∧ Rep E' (out.val.ren (expF exp out.H)) v) .ret a' E1.w :=
      ⟨h1.defers, v, g1, v, E3, rfl, m1.trans k1, m2, m3, m4, ren_rep m5 _ _ k5⟩
    rcases he with rfl | rfl
    · exact hfinal
    · exact hfinal
  · cases hS
end Go.Abs
