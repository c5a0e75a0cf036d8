/- Rules for walks over abstract states, with invariants at loops and states that forget. Conditions: none. -/
import Derived.Test.YtidbfifednannaaAbsN
namespace Go.Abs
open Go

/-- The code leads from every run's state that 'σ' tells to one that 'τ' tells, and leaves by 'e'. -/
def Ex (P : Program) (c : Code) (σ : AS) (e : Exit) (τ : AS) : Prop := ∀ (a : Act) (E : Env), SR σ a E → c.wp P (Post E fun e' τ' => e' = e ∧ τ' = τ) a E.w
/-- What is known of a piece of code from an abstract state on. -/
def WP (P : Program) (c : Code) (Q : Exit → AS → Prop) (σ : AS) : Prop := (∃ a E, SR σ a E) → ∃ e τ, Q e τ ∧ Ex P c σ e τ
theorem wp_has {P : Program} {c : Code} {Q : Exit → Act → World → Prop} {a : Act} {w : World} (h : c.wp P Q a w) : ∃ e a' w', Q e a' w' :=
  let ⟨e, a', w', h1, _⟩ := h (Frame.enter P 0 #[] .normal) [] []
  ⟨e, a', w', h1⟩
theorem Ex.has {P : Program} {c : Code} {σ : AS} {e : Exit} {τ : AS} (h : Ex P c σ e τ) (hs : ∃ a E, SR σ a E) : ∃ a E, SR τ a E := by
  obtain ⟨a, E, hs⟩ := hs
  obtain ⟨_, a', w', τ', E', _, h1, _, _, rfl⟩ := wp_has (h a E hs)
  exact ⟨a', E', h1⟩
theorem WP.run {P : Program} {c : Code} {Q : Exit → AS → Prop} {σ : AS} (h : WP P c Q σ) {a : Act} {E : Env} (hs : SR σ a E) : c.wp P (Post E Q) a E.w := by
  obtain ⟨e, τ, hq, hx⟩ := h ⟨a, E, hs⟩
  refine wp_mono (hx a E hs) fun e' a' w' ⟨τ', E', h1, h2, h3, h4, h5⟩ => ⟨τ', E', h1, h2, h3, ?_⟩
  subst h4 h5
  exact hq
theorem WP.ex {P : Program} {c : Code} {σ : AS} {ρ : Type} {Q : ρ → Exit → AS → Prop} (h : WP P c (fun e τ => ∃ r, Q r e τ) σ) (hs : ∃ a E, SR σ a E) : ∃ r, WP P c (Q r) σ := by
  obtain ⟨e, τ, ⟨r, hq⟩, hx⟩ := h hs
  exact ⟨r, fun _ => ⟨e, τ, hq, hx⟩⟩

/-- A state that says less. -/
structure AS.le (σ' σ : AS) : Prop where
  n : σ'.n = σ.n
  tmps : ∀ t x, lk σ'.tmps t = some x → ∃ y, lk σ.tmps t = some y ∧ ∀ E v, Rep E y v → Rep E x v
  heap : ∀ id, lk σ'.heap id = lk σ.heap id

theorem SR.le {σ σ' : AS} (h : AS.le σ' σ) {a : Act} {E : Env} (hs : SR σ a E) : SR σ' a E :=
  ⟨by rw [hs.heap]; funext id; exact (h.heap id).symm, hs.hr, hs.defers, by rw [hs.size, h.n], fun t x ht => by
    obtain ⟨y, hy, hyx⟩ := h.tmps t x ht
    obtain ⟨v, h1, h2⟩ := hs.tmps t y hy
    exact ⟨v, h1, hyx E v h2⟩⟩
theorem AS.le_refl (σ : AS) : AS.le σ σ := ⟨rfl, fun _ x h => ⟨x, h, fun _ _ h => h⟩, fun _ => rfl⟩

def tmpsIn : NL AV → NL AV → Prop
  | [], _ => True
  | (t, x) :: r, l => lk l t = some x ∧ tmpsIn r l
theorem tmpsIn_lk : ∀ {l' l : NL AV}, tmpsIn l' l → ∀ t x, lk l' t = some x → lk l t = some x
  | [], _, _, t, x, h => by simp [lk] at h
  | (s, y) :: r, l, h, t, x, hl => by
    simp only [tmpsIn] at h
    simp only [lk] at hl
    split at hl
    · rename_i e
      subst e
      simp only [Option.some.injEq] at hl
      subst hl
      exact h.1
    · exact tmpsIn_lk h.2 t x hl
theorem AS.le_of {n m : Nat} {ts' ts : NL AV} {h' h : NL ABlk} (hn : n = m) (ht : tmpsIn ts' ts) (hh : ∀ id, lk h' id = lk h id) : AS.le ⟨n, ts', h'⟩ ⟨m, ts, h⟩ := ⟨hn, fun t x h => ⟨x, tmpsIn_lk ht t x h, fun _ _ h => h⟩, hh⟩

/-- The same with values that say less. -/
def AV.weaker (y x : AV) : Prop := ∀ E v, Rep E y v → Rep E x v
theorem AV.weaker_refl (x : AV) : AV.weaker x x := fun _ _ h => h
theorem AV.weaker_nils (s : Nat) : AV.weaker .nils (.list s []) := fun E v h => by
  simp only [Rep] at h
  simp only [Rep, RepI]
  exact .inl ⟨h, trivial⟩
def tmpsLe : NL AV → NL AV → Prop
  | [], _ => True
  | (t, x) :: r, l => (∃ y, lk l t = some y ∧ AV.weaker y x) ∧ tmpsLe r l
theorem tmpsLe_lk : ∀ {l' l : NL AV}, tmpsLe l' l → ∀ t x, lk l' t = some x → ∃ y, lk l t = some y ∧ AV.weaker y x
  | [], _, _, t, x, h => by simp [lk] at h
  | (s, y) :: r, l, h, t, x, hl => by
    simp only [tmpsLe] at h
    simp only [lk] at hl
    split at hl
    · rename_i e
      subst e
      simp only [Option.some.injEq] at hl
      subst hl
      exact h.1
    · exact tmpsLe_lk h.2 t x hl
theorem AS.le_of' {n m : Nat} {ts' ts : NL AV} {h' h : NL ABlk} (hn : n = m) (ht : tmpsLe ts' ts) (hh : ∀ id, lk h' id = lk h id) : AS.le ⟨n, ts', h'⟩ ⟨m, ts, h⟩ := ⟨hn, tmpsLe_lk ht, hh⟩

theorem WP.mono {P : Program} {c : Code} {Q Q' : Exit → AS → Prop} {σ : AS} (h : WP P c Q σ) (hq : ∀ e σ, Q e σ → Q' e σ) : WP P c Q' σ := fun hs =>
  let ⟨e, τ, h1, h2⟩ := h hs
  ⟨e, τ, hq _ _ h1, h2⟩
theorem WP.weak {P : Program} {c : Code} {Q : Exit → AS → Prop} {σ σ' : AS} (hl : AS.le σ' σ) (h : WP P c Q σ') : WP P c Q σ := fun ⟨a, E, hs⟩ =>
  let ⟨e, τ, h1, h2⟩ := h ⟨a, E, hs.le hl⟩
  ⟨e, τ, h1, fun a E hs => h2 a E (hs.le hl)⟩
theorem WP.seq {P : Program} {x y : Code} {Q : Exit → AS → Prop} {σ : AS} (h : WP P x (fun e σ' => match e with
    | .normal => WP P y Q σ'
    | e => Q e σ') σ) : WP P (.seq x y) Q σ := fun hs => by
  obtain ⟨e, τ, h1, h2⟩ := h hs
  have hτ := h2.has hs
  cases e with
  | normal =>
    obtain ⟨e, υ, h3, h4⟩ := h1 hτ
    refine ⟨e, υ, h3, fun a E hs => wp_seq (wp_mono (h2 a E hs) fun e a' w' hp => ?_)⟩
    obtain ⟨σ', E', rfl, k1, k2, rfl, rfl⟩ := hp
    refine wp_mono (h4 a' E' k1) fun e a'' w'' hp => ?_
    obtain ⟨σ'', E'', rfl, g1, g2, g3⟩ := hp
    exact ⟨σ'', E'', rfl, g1, k2.trans g2, g3⟩
  | _ =>
    refine ⟨_, τ, h1, fun a E hs => wp_seq (wp_mono (h2 a E hs) fun e a' w' hp => ?_)⟩
    obtain ⟨σ', E', rfl, k1, k2, rfl, rfl⟩ := hp
    exact ⟨_, E', rfl, k1, k2, rfl, rfl⟩
theorem WP.skip {P : Program} {Q : Exit → AS → Prop} {σ : AS} (h : Q .normal σ) : WP P .skip Q σ := fun _ => ⟨_, _, h, fun _ E hs => wp_skip ⟨σ, E, rfl, hs, Step.refl E, rfl, rfl⟩⟩
theorem WP.label {P : Program} {n : Nat} {Q : Exit → AS → Prop} {σ : AS} (h : Q .normal σ) : WP P (.label n) Q σ := fun _ => ⟨_, _, h, fun _ E hs => wp_label ⟨σ, E, rfl, hs, Step.refl E, rfl, rfl⟩⟩
theorem WP.exit {P : Program} {n : Nat} {Q : Exit → AS → Prop} {σ : AS} (h : Q (.exit n) σ) : WP P (.exit n) Q σ := fun _ => ⟨_, _, h, fun _ E hs => wp_exit ⟨σ, E, rfl, hs, Step.refl E, rfl, rfl⟩⟩
theorem WP.ret {P : Program} {Q : Exit → AS → Prop} {σ : AS} (h : Q .ret σ) : WP P .ret Q σ := fun _ => ⟨_, _, h, fun _ E hs => wp_ret ⟨σ, E, rfl, hs, Step.refl E, rfl, rfl⟩⟩
theorem WP.region {P : Program} {specs : FuncId → Option Spec} {kk : Nat} (hm : P.follows .mixedOrders = true) (hsp : ∀ f s, specs f = some s → FnC P f s.fn) {id : Nat} {ops : Array Oper} {draw : Bool} {Q : Exit → AS → Prop} {σ σ' : AS} {A : Prop}
    (hr : runR P specs kk ops draw σ = some (σ', A)) (h : A → Q .normal σ') : WP P (.region id ops draw) Q σ := fun ⟨a, E, hs⟩ => by
  have key : ∀ (a : Act) (E : Env), SR σ a E → (Code.region id ops draw).wp P (Post E fun e' τ' => e' = .normal ∧ τ' = σ' ∧ A) a E.w := fun a E hs =>
    awp_sound hm hsp (.region id ops draw) hs (by simp only [awp]; exact ⟨kk, by simp only [hr]; exact fun hA => ⟨trivial, trivial, hA⟩⟩)
  obtain ⟨_, _, _, _, _, _, _, _, _, _, hA⟩ := wp_has (key a E hs)
  exact ⟨_, σ', h hA, fun a E hs => wp_mono (key a E hs) fun e' a' w' ⟨τ', E', g1, g2, g3, g4, g5, _⟩ => ⟨τ', E', g1, g2, g3, g4, g5⟩⟩
theorem WP.cond {P : Program} {c : Operand} {x y : Code} {b : Bool} {Q : Exit → AS → Prop} {σ : AS} (hc : σ.ev c = .bool b) (ht : b = true → WP P x Q σ) (hf : b = false → WP P y Q σ) : WP P (.cond c x y) Q σ := fun hs => by
  have he : ∀ (a : Act) (E : Env), SR σ a E → a.eval c = .bool b := fun a E hs => by
    have h := hs.ev c
    rw [hc] at h
    simpa only [Rep] using h
  cases b with
  | true =>
    obtain ⟨e, τ, h1, h2⟩ := ht rfl hs
    exact ⟨e, τ, h1, fun a E hs => wp_cond_split (he a E hs) (fun _ => h2 a E hs) (fun h => by cases h)⟩
  | false =>
    obtain ⟨e, τ, h1, h2⟩ := hf rfl hs
    exact ⟨e, τ, h1, fun a E hs => wp_cond_split (he a E hs) (fun h => by cases h) (fun _ => h2 a E hs)⟩
theorem WP.block {P : Program} {id : Nat} {x : Code} {Q : Exit → AS → Prop} {σ : AS} (h : WP P x (fun e σ' => match e with
    | .exit i => if i = id then Q .normal σ' else Q (.exit i) σ'
    | e => Q e σ') σ) : WP P (.block id x) Q σ := fun hs => by
  obtain ⟨e, τ, h1, h2⟩ := h hs
  refine ⟨(match e with
    | .exit i => if i = id then .normal else .exit i
    | e => e), τ, ?_, fun a E hs => wp_block (wp_mono (h2 a E hs) fun e' a' w' hp => ?_)⟩
  · cases e with
    | exit i =>
      dsimp only at h1 ⊢
      split
      · rename_i e; rw [if_pos e] at h1; exact h1
      · rename_i e; rw [if_neg e] at h1; exact h1
    | _ => exact h1
  · obtain ⟨σ', E', rfl, g1, g2, rfl, rfl⟩ := hp
    cases e' with
    | exit i =>
      simp only [Exit.inBlock]
      split
      · exact ⟨_, E', rfl, g1, g2, rfl, rfl⟩
      · exact ⟨_, E', rfl, g1, g2, rfl, rfl⟩
    | _ => exact ⟨_, E', rfl, g1, g2, rfl, rfl⟩
/-- A loop, by states that are numbered by whatever kind, and a measure that falls. -/
theorem WP.loop {P : Program} {x : Code} {Q : Exit → AS → Prop} {ι : Type} (J : ι → AS) (m : ι → Nat)
    (step : ∀ i, WP P x (fun e σ' => match e with
      | .normal => ∃ j, m j < m i ∧ AS.le (J j) σ'
      | e => Q e σ') (J i)) {σ : AS} (i : ι) (h0 : AS.le (J i) σ) : WP P (.loop x) Q σ := by
  have key : ∀ (n : Nat) (i : ι), m i < n → (∃ a E, SR (J i) a E) → ∃ e τ, Q e τ ∧ ∀ (a : Act) (E0 E : Env), Step E0 E → SR (J i) a E → Code.rounds P x (Post E0 fun e' τ' => e' = e ∧ τ' = τ) n a E.w := by
    intro n
    induction n with
    | zero => intro i h; omega
    | succ n ih =>
      intro i hi hs
      obtain ⟨e, τ, h1, h2⟩ := step i hs
      have hτ := h2.has hs
      cases e with
      | normal =>
        obtain ⟨j, hj, hle⟩ := h1
        obtain ⟨a', E', hs'⟩ := hτ
        obtain ⟨e, υ, h3, h4⟩ := ih j (by omega) ⟨a', E', hs'.le hle⟩
        refine ⟨e, υ, h3, fun a E0 E hst hs => ?_⟩
        rw [rounds_succ]
        refine wp_mono (h2 a E hs) fun e a'' w'' hp => ?_
        obtain ⟨σ2, E2, rfl, k1, k2, rfl, rfl⟩ := hp
        exact h4 a'' E0 E2 (hst.trans k2) (k1.le hle)
      | _ =>
        refine ⟨_, τ, h1, fun a E0 E hst hs => ?_⟩
        rw [rounds_succ]
        refine wp_mono (h2 a E hs) fun e a'' w'' hp => ?_
        obtain ⟨σ2, E2, rfl, k1, k2, rfl, rfl⟩ := hp
        exact ⟨_, E2, rfl, k1, hst.trans k2, rfl, rfl⟩
  intro ⟨a, E, hs⟩
  obtain ⟨e, τ, h1, h2⟩ := key (m i + 1) i (by omega) ⟨a, E, hs.le h0⟩
  exact ⟨e, τ, h1, fun a E hs => wp_loop_rounds (m i + 1) (h2 a E E (Step.refl E) (hs.le h0))⟩

/-- A list of contracts. -/
def specOf (l : NL Spec) (f : FuncId) : Option Spec := lk l f
theorem specOf_ok {P : Program} {l : NL Spec} (h : ∀ p ∈ l, FnC P p.1 p.2.fn) : ∀ f s, specOf l f = some s → FnC P f s.fn := by
  intro f s hs
  unfold specOf at hs
  induction l with
  | nil => simp [lk] at hs
  | cons p r ih =>
    obtain ⟨k, y⟩ := p
    simp only [lk] at hs
    split at hs
    · rename_i e
      subst e
      simp only [Option.some.injEq] at hs
      subst hs
      exact h (k, y) (by simp)
    · exact ih (fun p hp => h p (by simp [hp])) hs

theorem FnC.of_wp {P : Program} (f : FuncId) {fn : Func} {body : Code}
    (hf : P.funcs[f]? = some fn) (hb : fn.body = some body) (hname : (fn.name == "runtime.NumGoroutine") = false) {S : List AV → Option (AV × List ABlk)}
    (h : ∀ args r B, S args = some (r, B) → WP P body (RetQ P fn r B) (init fn args)) : FnC P f (fun args B => match B with
      | [] => S args
      | _ => none) := by
  refine ⟨⟨fn, hf, hname, by simp [hb]⟩, fun args B r B' hS E vs hH hr hx => ?_⟩
  cases B with
  | cons b bs => simp at hS
  | nil =>
    simp only at hS
    have hE0 : E.H = fun _ => none := by rw [hH]; funext i; simp
    have hsz : vs.size = args.length := by have := hx.length; simpa using this
    have hsr : SR (init fn args) { tmps := vs ++ Array.replicate (fn.ntmps - vs.size) undef, defers := [] } E := by
      refine ⟨by rw [hE0]; funext i; simp [init, lk], hr, rfl, by simp [init, hsz], fun t x ht => ?_⟩
      simp only [init, lk_num, Nat.zero_le, if_true, Nat.sub_zero] at ht
      obtain ⟨v, hv, hxv⟩ := hx.get ht
      refine ⟨v, ?_, hxv⟩
      have hlt : t < vs.size := by rw [hsz]; exact (List.getElem?_eq_some_iff.1 ht).1
      rw [Array.getElem?_append_left hlt]
      simpa using hv
    refine calls_of_wp hf hb (wp_mono ((h args r B' hS).run hsr) fun e a' w' hp => ?_)
    obtain ⟨σ', E1, rfl, h1, h2, he, xs, hxs, hret⟩ := hp
    obtain ⟨v, g1, g2⟩ := resVs_run h1 hxs
    have hfin : ∃ v E', (results fn a'.tmps).run P E1.w = .ok v E1.w ∧ E'.w = E1.w ∧ E'.H = (fun i => B'[i]?) ∧ HR E' ∧ Step E E' ∧ Rep E' r v := by
      rcases hret with ⟨rfl, out, q1, rfl, q3⟩ | ⟨exp, q1, q2, rfl⟩
      · obtain ⟨E2, k1, k2, k3, k4⟩ := frzT_run h1.heap h1.hr g2 q1
        have hi := inlT_rep q3 k4
        have hs := h2.trans k3
        have hold : ∀ b, b < E.w.heap.size → E2.w.heap[b]? = E.w.heap[b]? := fun b hb => hs.old b hb (fun id blk h => by simp [hE0] at h)
        refine ⟨v, ⟨E2.w, fun _ => none, E2.φ, E2.cs, E2.F⟩, g1, k1, by funext i; simp, ⟨fun _ _ h => by simp at h, fun _ _ _ _ h => by simp at h, fun _ _ h => by simp at h, k2.fb⟩, ⟨hs.size, fun b hb _ => hold b hb, hs.fo, fun id blk h => by simp [hE0] at h, fun _ _ h => by simp at h, hs.kept⟩, ?_⟩
        exact RepI.rep _ _ (RepI.mono (fun b hb => ⟨⟨hb.1, hb.2.1, fun _ _ h => by simp at h⟩, rfl⟩) _ _ hi)
      · obtain ⟨E', k1, k2, k3, k4, k5⟩ := export_env hE0 h1.heap h1.hr h2 q1 q2
        exact ⟨v, E', g1, k1, k2, k3, k4, ren_rep k5 _ _ g2⟩
    obtain ⟨v', E', r1, r2, r3, r4, r5, r6⟩ := hfin
    have hfinal : bodyPost P fn (fun e w' => ∃ v E', e = .returned v ∧ E'.w = w' ∧ E'.H = (fun i => B'[i]?) ∧ HR E' ∧ Step E E' ∧ Rep E' r v) .ret a' E1.w :=
      ⟨h1.defers, v', r1, v', E', rfl, r2, r3, r4, r5, r6⟩
    rcases he with rfl | rfl
    · exact hfinal
    · exact hfinal

/-! ### Code by its place, so that goals stay small -/
def codeOf (f : Func) : Code := match f.body with
  | some c => c
  | none => .skip
def cL : Code → Code
  | .seq x _ => x
  | .cond _ x _ => x
  | .block _ x => x
  | .loop x => x
  | c => c
def cR : Code → Code
  | .seq _ y => y
  | .cond _ _ y => y
  | c => c
theorem WP.seqN {P : Program} {c : Code} {Q : Exit → AS → Prop} {σ : AS} (hc : c = .seq (cL c) (cR c)) (h : WP P (cL c) (fun e σ' => match e with
    | .normal => WP P (cR c) Q σ'
    | e => Q e σ') σ) : WP P c Q σ := by rw [hc]; exact WP.seq h
theorem WP.condN {P : Program} {c : Code} {t : Nat} {b : Bool} {Q : Exit → AS → Prop} {σ : AS} (hc : c = .cond (.tmp t) (cL c) (cR c)) (hv : lk σ.tmps t = some (.bool b)) (ht : b = true → WP P (cL c) Q σ) (hf : b = false → WP P (cR c) Q σ) : WP P c Q σ := by
  rw [hc]; exact WP.cond (by simp [AS.ev, hv]) ht hf
theorem WP.blockN {P : Program} {c : Code} {id : Nat} {Q : Exit → AS → Prop} {σ : AS} (hc : c = .block id (cL c)) (h : WP P (cL c) (fun e σ' => match e with
    | .exit i => if i = id then Q .normal σ' else Q (.exit i) σ'
    | e => Q e σ') σ) : WP P c Q σ := by rw [hc]; exact WP.block h
theorem WP.loopN {P : Program} {c : Code} {Q : Exit → AS → Prop} (hc : c = .loop (cL c)) {ι : Type} (J : ι → AS) (m : ι → Nat)
    (step : ∀ i, WP P (cL c) (fun e σ' => match e with
      | .normal => ∃ j, m j < m i ∧ AS.le (J j) σ'
      | e => Q e σ') (J i)) {σ : AS} (i : ι) (h0 : AS.le (J i) σ) : WP P c Q σ := by rw [hc]; exact WP.loop J m step i h0
theorem WP.skipN {P : Program} {c : Code} {Q : Exit → AS → Prop} {σ : AS} (hc : c = .skip) (h : Q .normal σ) : WP P c Q σ := by rw [hc]; exact WP.skip h
theorem WP.exitN {P : Program} {c : Code} {n : Nat} {Q : Exit → AS → Prop} {σ : AS} (hc : c = .exit n) (h : Q (.exit n) σ) : WP P c Q σ := by rw [hc]; exact WP.exit h
theorem WP.retN {P : Program} {c : Code} {Q : Exit → AS → Prop} {σ : AS} (hc : c = .ret) (h : Q .ret σ) : WP P c Q σ := by rw [hc]; exact WP.ret h
theorem WP.regionN {P : Program} {specs : NL Spec} (hm : P.follows .mixedOrders = true) (hsp : ∀ p ∈ specs, FnC P p.1 p.2.fn) {c : Code} {id : Nat} {ops : Array Oper} {draw : Bool} (hc : c = .region id ops draw) {Q : Exit → AS → Prop} {σ σ' : AS} {A : Prop}
    (hr : runR P (specOf specs) 0 ops draw σ = some (σ', A)) (h : A → Q .normal σ') : WP P c Q σ := by rw [hc]; exact WP.region hm (specOf_ok hsp) hr h

/-! ### Contracts over what the arguments mean -/
open Classical in
noncomputable def mkS {α : Type} (enc : α → List AV) (res : α → AV × List ABlk) : SpecFn := fun args B =>
  if h : B = [] ∧ ∃ x, enc x = args then some (res h.2.choose) else none
theorem mkS_eq {α : Type} {enc : α → List AV} {res : α → AV × List ABlk} (inj : ∀ x y, enc x = enc y → res x = res y) (x : α) : mkS enc res (enc x) [] = some (res x) := by
  unfold mkS
  have h : ([] : List ABlk) = [] ∧ ∃ y, enc y = enc x := ⟨rfl, x, rfl⟩
  rw [dif_pos h, inj _ _ h.2.choose_spec]
theorem FnC.ofEnc {P : Program} {α : Type} {enc : α → List AV} {res : α → AV × List ABlk} (f : FuncId) {fn : Func} (hf : P.funcs[f]? = some fn) (hb : fn.body = some (codeOf fn)) (hname : (fn.name == "runtime.NumGoroutine") = false)
    (h : ∀ x, WP P (codeOf fn) (RetQ P fn (res x).1 (res x).2) (init fn (enc x))) : FnC P f (mkS enc res) := by
  have h1 := FnC.of_wp (P := P) f hf hb hname (S := fun args => mkS enc res args []) (fun args r B hS => by
    unfold mkS at hS
    split at hS
    · rename_i hx
      simp only [Option.some.injEq] at hS
      have h2 := h hx.2.choose
      rw [hx.2.choose_spec, hS] at h2
      exact h2
    · cases hS)
  refine ⟨h1.fn, fun args B r B' hS E vs hH hr hx => ?_⟩
  cases B with
  | nil => exact h1.calls args [] r B' hS E vs hH hr hx
  | cons b bs => simp [mkS] at hS

/-! ### How programs of abstract operations run -/
theorem run_ret {α : Type} (a : α) (H : NL ABlk) : (AP.ret a).run H = some ⟨a, H, [], [], True⟩ := rfl
theorem run_fail {α : Type} (H : NL ABlk) : (AP.fail (α := α)).run H = none := rfl
theorem run_get {α : Type} (id : Nat) (k : ABlk → AP α) (H : NL ABlk) : (AP.get id k).run H = match (k ((lk H id).getD {})).run H with
    | some o => some ⟨o.val, o.H, id :: o.rd, o.wr, o.as⟩
    | none => none := by
  simp only [AP.run]
  cases lk H id <;> rfl
theorem run_put {α : Type} (id : Nat) (b : ABlk) (k : AP α) (H : NL ABlk) : (AP.put id b k).run H = match k.run (st H id b) with
    | some o => some ⟨o.val, o.H, o.rd, id :: o.wr, o.as⟩
    | none => none := rfl
theorem run_asm {α : Type} (p : Prop) (k : AP α) (H : NL ABlk) : (AP.asm p k).run H = match k.run H with
    | some o => some ⟨o.val, o.H, o.rd, o.wr, p ∧ o.as⟩
    | none => none := rfl
end Go.Abs
