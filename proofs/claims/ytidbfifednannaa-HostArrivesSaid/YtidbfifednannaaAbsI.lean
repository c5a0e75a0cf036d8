/- Calls by what the callee is known to do. Conditions: none. -/
import Derived.Test.YtidbfifednannaaAbsH
namespace Go.Abs
open Go

/-! ### What a function is known to do -/
abbrev SpecFn := List AV → List ABlk → Option (AV × List ABlk)

/-- 'S' tells what the call gives: the value, and what the blocks that were handed in hold then; blocks behind these are new. -/
structure FnC (P : Program) (f : FuncId) (S : SpecFn) : Prop where
  fn : ∃ fn, P.funcs[f]? = some fn ∧ (fn.name == "runtime.NumGoroutine") = false ∧ fn.body.isNone = false
  calls : ∀ (args : List AV) (B : List ABlk) (r : AV) (B' : List ABlk), S args B = some (r, B') → ∀ (E : Env) (vs : Array Value), E.H = (fun i => B[i]?) → HR E → RepL E args vs.toList →
    Calls P f vs E.w fun e w' => ∃ v E', e = .returned v ∧ E'.w = w' ∧ E'.H = (fun i => B'[i]?) ∧ HR E' ∧ Step E E' ∧ Rep E' r v

/-! ### Actions -/
structure ActW where
  f : World → (Value → World → Prop) → Prop
  mono : ∀ w K K', (∀ v w', K v w' → K' v w') → f w K → f w K'
def SndW (E : Env) (H : NL ABlk) (p : AP AV) (A : ActW) : Prop :=
  ∀ out, p.run H = some out → A.f E.w fun v w' => out.as ∧ ∃ E', E'.w = w' ∧ E'.H = lk out.H ∧ HR E' ∧ Step E E' ∧ Rep E' out.val v
theorem SndW.fail {E : Env} {H : NL ABlk} {A : ActW} : SndW E H .fail A := fun _ h => by simp [AP.run] at h
theorem SndW.get {E : Env} {H : NL ABlk} {A : ActW} {id : Nat} {k : ABlk → AP AV} {b : ABlk} (hb : lk H id = some b) (h : SndW E H (k b) A) : SndW E H (.get id k) A :=
  fun out h' => by
    simp only [AP.run, hb] at h'
    split at h'
    · rename_i o ho
      simp only [Option.some.injEq] at h'
      subst h'
      exact h o ho
    · cases h'
theorem SndW.put_then {E E1 : Env} {H : NL ABlk} {A : ActW} {id : Nat} {b : ABlk} {p : AP AV} (hw : E1.w = E.w) (hs : Step E E1) (h : SndW E1 (st H id b) p A) : SndW E H (.put id b p) A := fun out ho => by
  simp only [AP.run] at ho
  split at ho
  · rename_i o hr
    simp only [Option.some.injEq] at ho
    subst ho
    have := h o hr
    rw [hw] at this
    exact A.mono _ _ _ (fun v w' ⟨h1, E', h2, h3, h4, h5, h6⟩ => ⟨h1, E', h2, h3, h4, hs.trans h5, h6⟩) this
  · cases ho

theorem frz1_w {E : Env} {H : NL ABlk} (hH : E.H = lk H) (hr : HR E) {x : AV} {v : Value} (hx : Rep E x v) {k : AV → AP AV} {A : ActW}
    (h : ∀ E1 H1 x', E1.w = E.w → E1.H = lk H1 → HR E1 → Step E E1 → RepI E1.w E1.imm x' v → SndW E1 H1 (k x') A) : SndW E H (frz1 x k) A := by
  unfold frz1
  split
  · rename_i id g off len
    simp only [Rep] at hx
    obtain ⟨blk, oa, len', cap, hb, hle, rfl, hg⟩ := hx
    refine SndW.get (by rw [← hH]; exact hb) ?_
    split
    · rename_i hc
      obtain ⟨g1, g2, g3⟩ := hc
      obtain ⟨hk, rfl, h1, h2, h3⟩ := hg g1
      split
      · rename_i hk2
        obtain ⟨q1, q2⟩ := hr.freeze hb hk2
        refine SndW.put_then (E1 := ⟨E.w, upd E.H id (some { blk with kind := 1 }), E.φ, E.cs, E.F⟩) rfl q2 (h ⟨E.w, upd E.H id (some { blk with kind := 1 }), E.φ, E.cs, E.F⟩ _ _ rfl (by rw [lk_st_upd, hH]) q1 q2 ?_)
        exact slice_inl (blk := { blk with kind := 1 }) q1 (by simp [upd_same]) rfl g2 g3 h1 h2 h3
      · split
        · rename_i hk1
          exact h _ _ _ rfl hH hr (Step.refl E) (slice_inl hr hb hk1 g2 g3 h1 h2 h3)
        · exact SndW.fail
    · exact SndW.fail
  · split
    · rename_i hi
      exact h E H x rfl hH hr (Step.refl E) (isInl_rep hx hi)
    · exact SndW.fail
theorem frzL_w {A : ActW} : ∀ {xs : List AV} {E : Env} {H : NL ABlk} (_ : E.H = lk H) (_ : HR E) {vs : List Value} (_ : RepL E xs vs) {k : List AV → AP AV}
    (_ : ∀ E1 H1 xs', E1.w = E.w → E1.H = lk H1 → HR E1 → Step E E1 → RepIL E1.w E1.imm xs' vs → SndW E1 H1 (k xs') A), SndW E H (frzL xs k) A
  | [], E, H, hH, hr, vs, hx, k, h => h E H [] rfl hH hr (Step.refl E) (by simpa only [RepL, RepIL] using hx)
  | x :: r, E, H, hH, hr, vs, hx, k, h => by
    simp only [RepL] at hx
    obtain ⟨v, vs', rfl, h1, h2⟩ := hx
    refine frz1_w hH hr h1 fun E1 H1 x' e1 e2 e3 e4 e5 => ?_
    refine frzL_w e2 e3 (RepL.mono e4 _ _ h2) fun E2 H2 r' f1 f2 f3 f4 f5 => ?_
    refine h E2 H2 (x' :: r') (f1.trans e1) f2 f3 (e4.trans f4) ?_
    simp only [RepIL]
    exact ⟨v, vs', rfl, RepI.mono f4.inl _ _ e5, f5⟩
theorem frzV_w {E : Env} {H : NL ABlk} (hH : E.H = lk H) (hr : HR E) {x : AV} {v : Value} (hx : Rep E x v) {k : AV → AP AV} {A : ActW}
    (h : ∀ E1 H1 x', E1.w = E.w → E1.H = lk H1 → HR E1 → Step E E1 → RepI E1.w E1.imm x' v → SndW E1 H1 (k x') A) : SndW E H (frzV x k) A := by
  unfold frzV
  split
  · simp only [Rep] at hx
    obtain ⟨cs, rfl, hc⟩ := hx
    refine frzL_w hH hr hc fun E1 H1 xs' e1 e2 e3 e4 e5 => h E1 H1 _ e1 e2 e3 e4 ?_
    simp only [RepI]; exact ⟨cs, rfl, e5⟩
  · simp only [Rep] at hx
    obtain ⟨cs, rfl, hc⟩ := hx
    refine frzL_w hH hr hc fun E1 H1 xs' e1 e2 e3 e4 e5 => h E1 H1 _ e1 e2 e3 e4 ?_
    simp only [RepI]; exact ⟨cs, rfl, e5⟩
  · simp only [Rep] at hx
    obtain ⟨fs, cs, rfl, h1, h2⟩ := hx
    refine frzL_w hH hr h1 fun E1 H1 xs' e1 e2 e3 e4 e5 => ?_
    refine frzL_w e2 e3 (RepL.mono e4 _ _ h2) fun E2 H2 ys' f1 f2 f3 f4 f5 => h E2 H2 _ (f1.trans e1) f2 f3 (e4.trans f4) ?_
    simp only [RepI]; exact ⟨fs, cs, rfl, RepIL.mono f4.inl _ _ e5, f5⟩
  · exact frz1_w hH hr hx h
theorem frzVs_w {A : ActW} : ∀ {xs : List AV} {E : Env} {H : NL ABlk} (_ : E.H = lk H) (_ : HR E) {vs : List Value} (_ : RepL E xs vs) {k : List AV → AP AV}
    (_ : ∀ E1 H1 xs', E1.w = E.w → E1.H = lk H1 → HR E1 → Step E E1 → RepIL E1.w E1.imm xs' vs → SndW E1 H1 (k xs') A), SndW E H (frzVs xs k) A
  | [], E, H, hH, hr, vs, hx, k, h => h E H [] rfl hH hr (Step.refl E) (by simpa only [RepL, RepIL] using hx)
  | x :: r, E, H, hH, hr, vs, hx, k, h => by
    simp only [RepL] at hx
    obtain ⟨v, vs', rfl, h1, h2⟩ := hx
    refine frzV_w hH hr h1 fun E1 H1 x' e1 e2 e3 e4 e5 => ?_
    refine frzVs_w e2 e3 (RepL.mono e4 _ _ h2) fun E2 H2 r' f1 f2 f3 f4 f5 => ?_
    refine h E2 H2 (x' :: r') (f1.trans e1) f2 f3 (e4.trans f4) ?_
    simp only [RepIL]
    exact ⟨v, vs', rfl, RepI.mono f4.inl _ _ e5, f5⟩

/-! ### Handing data out for a look -/
def brw1 (x : AV) (k : AV → AP AV) : AP AV :=
  match x with
  | .sl id g off len => .get id fun b =>
    if b.gen = g ∧ b.inl = true ∧ off + len ≤ b.rows.length ∧ (b.kind = 1 ∨ b.kind = 2) then k (.list b.size ((b.rows.drop off).take len)) else .fail
  | x => if x.isInl then k x else .fail
def brwL : List AV → (List AV → AP AV) → AP AV
  | [], k => k []
  | x :: r, k => brw1 x fun x' => brwL r fun r' => k (x' :: r')
def brwV (x : AV) (k : AV → AP AV) : AP AV :=
  match x with
  | .agg cs => brwL cs fun cs' => k (.agg cs')
  | .tup cs => brwL cs fun cs' => k (.tup cs')
  | .fn f a b => brwL a fun a' => brwL b fun b' => k (.fn f a' b')
  | x => brw1 x k
def brwVs : List AV → (List AV → AP AV) → AP AV
  | [], k => k []
  | x :: r, k => brwV x fun x' => brwVs r fun r' => k (x' :: r')

def Env.all (E : Env) (b : Nat) : Prop := b < E.w.heap.size
theorem Env.imm_all (E : Env) : ∀ b, E.imm b → E.all b ∧ E.w.heap[b]? = E.w.heap[b]? := fun _ h => ⟨h.1, rfl⟩

theorem brw1_w {E : Env} {H : NL ABlk} (hH : E.H = lk H) (hr : HR E) {x : AV} {v : Value} (hx : Rep E x v) {k : AV → AP AV} {A : ActW}
    (h : ∀ x', RepI E.w E.all x' v → SndW E H (k x') A) : SndW E H (brw1 x k) A := by
  unfold brw1
  split
  · rename_i id g off len
    simp only [Rep] at hx
    obtain ⟨blk, oa, len', cap, hb, hle, rfl, hg⟩ := hx
    refine SndW.get (by rw [← hH]; exact hb) ?_
    split
    · rename_i hc
      obtain ⟨g1, g2, g3, hk⟩ := hc
      obtain ⟨_, rfl, h1, h2, h3⟩ := hg g1
      refine h _ ?_
      have hlen : ((blk.rows.drop off).take len').length = len' := by rw [List.length_take, List.length_drop]; omega
      simp only [RepI]
      cases oa with
      | none =>
        have hc : cap = 0 := by
          rcases Nat.eq_zero_or_pos cap with h | h
          · exact h
          · cases (h3 h).1
        subst hc
        have : len' = 0 := by omega
        subst this
        exact .inl ⟨rfl, List.eq_nil_of_length_eq_zero hlen⟩
      | some a =>
        refine .inr ⟨a, cap, by rw [hlen], by rw [hlen]; exact h1, h2, fun hn => ?_, ?_⟩
        · have hp : 0 < len' := by rw [← hlen]; exact List.length_pos_iff.2 hn
          obtain ⟨ea, hcs⟩ := h3 (by omega)
          cases ea
          obtain ⟨C, c1, c2, c3, c4, c5, c6⟩ := hr.cells hb hk
          have hcp : 0 < E.cs id := by have : 0 < (off + cap) * blk.size := Nat.mul_pos (by omega) c3; omega
          exact ⟨rfl, (hr.nf id blk hb (by omega) hcp).1⟩
        · rcases Nat.eq_zero_or_pos len' with hp | hp
          · have : (blk.rows.drop off).take len' = [] := List.eq_nil_of_length_eq_zero (by rw [hlen]; exact hp)
            rw [this]; simp only [RepRows]
          · obtain ⟨ea, hcs⟩ := h3 (by omega)
            cases ea
            obtain ⟨C, c1, c2, c3, c4, c5, c6⟩ := hr.cells hb hk
            have hcp : 0 < E.cs id := by have : 0 < (off + cap) * blk.size := Nat.mul_pos (by omega) c3; omega
            refine block_rows (c1 hcp) c5 fun r row j x q1 q2 => ?_
            obtain ⟨u, d1, d2, d3⟩ := c6 r row j x q1 q2
            rw [g2] at d3
            exact ⟨u, d1, d2, RepI.mono E.imm_all _ _ d3⟩
    · exact SndW.fail
  · split
    · rename_i hi
      exact h x (RepI.mono E.imm_all _ _ (isInl_rep hx hi))
    · exact SndW.fail
theorem brwL_w {E : Env} {H : NL ABlk} {A : ActW} (hH : E.H = lk H) (hr : HR E) : ∀ {xs : List AV} {vs : List Value} (_ : RepL E xs vs) {k : List AV → AP AV}
    (_ : ∀ xs', RepIL E.w E.all xs' vs → SndW E H (k xs') A), SndW E H (brwL xs k) A
  | [], vs, hx, k, h => h [] (by simpa only [RepL, RepIL] using hx)
  | x :: r, vs, hx, k, h => by
    simp only [RepL] at hx
    obtain ⟨v, vs', rfl, h1, h2⟩ := hx
    refine brw1_w hH hr h1 fun x' e => brwL_w hH hr h2 fun r' f => h (x' :: r') ?_
    simp only [RepIL]
    exact ⟨v, vs', rfl, e, f⟩
theorem brwV_w {E : Env} {H : NL ABlk} (hH : E.H = lk H) (hr : HR E) {x : AV} {v : Value} (hx : Rep E x v) {k : AV → AP AV} {A : ActW}
    (h : ∀ x', RepI E.w E.all x' v → SndW E H (k x') A) : SndW E H (brwV x k) A := by
  unfold brwV
  split
  · simp only [Rep] at hx
    obtain ⟨cs, rfl, hc⟩ := hx
    refine brwL_w hH hr hc fun xs' e => h _ ?_
    simp only [RepI]; exact ⟨cs, rfl, e⟩
  · simp only [Rep] at hx
    obtain ⟨cs, rfl, hc⟩ := hx
    refine brwL_w hH hr hc fun xs' e => h _ ?_
    simp only [RepI]; exact ⟨cs, rfl, e⟩
  · simp only [Rep] at hx
    obtain ⟨fs, cs, rfl, h1, h2⟩ := hx
    refine brwL_w hH hr h1 fun xs' e => brwL_w hH hr h2 fun ys' f => h _ ?_
    simp only [RepI]; exact ⟨fs, cs, rfl, e, f⟩
  · exact brw1_w hH hr hx h
theorem brwVs_w {E : Env} {H : NL ABlk} {A : ActW} (hH : E.H = lk H) (hr : HR E) : ∀ {xs : List AV} {vs : List Value} (_ : RepL E xs vs) {k : List AV → AP AV}
    (_ : ∀ xs', RepIL E.w E.all xs' vs → SndW E H (k xs') A), SndW E H (brwVs xs k) A
  | [], vs, hx, k, h => h [] (by simpa only [RepL, RepIL] using hx)
  | x :: r, vs, hx, k, h => by
    simp only [RepL] at hx
    obtain ⟨v, vs', rfl, h1, h2⟩ := hx
    refine brwV_w hH hr h1 fun x' e => brwVs_w hH hr h2 fun r' f => h (x' :: r') ?_
    simp only [RepIL]
    exact ⟨v, vs', rfl, e, f⟩

/-! ### Values without memory -/
def AV.flat1 : AV → Bool
  | .bool _ | .int _ _ | .str _ | .nilp | .nils | .nilf | .nilm => true
  | _ => false
def AV.flat2 : AV → Bool
  | .agg cs => cs.all AV.flat1
  | x => x.flat1
def AV.flat : AV → Bool
  | .tup vs => vs.all AV.flat2
  | x => x.flat2
theorem flat1_rep {E E' : Env} {x : AV} {v : Value} (h : x.flat1 = true) (hx : Rep E x v) : Rep E' x v := by
  cases x <;> simp [AV.flat1] at h <;> exact hx
theorem flatL_rep {E E' : Env} {p : AV → Bool} (hp : ∀ {x : AV} {v : Value}, p x = true → Rep E x v → Rep E' x v) : ∀ {xs : List AV} {vs : List Value}, xs.all p = true → RepL E xs vs → RepL E' xs vs
  | [], _, _, h => h
  | x :: r, vs, ha, h => by
    simp only [List.all_cons, Bool.and_eq_true] at ha
    simp only [RepL] at h ⊢
    obtain ⟨v, vs', rfl, h1, h2⟩ := h
    exact ⟨v, vs', rfl, hp ha.1 h1, flatL_rep hp ha.2 h2⟩
theorem flat2_rep {E E' : Env} {x : AV} {v : Value} (h : x.flat2 = true) (hx : Rep E x v) : Rep E' x v := by
  unfold AV.flat2 at h
  split at h
  · simp only [Rep] at hx ⊢
    obtain ⟨cs, rfl, hc⟩ := hx
    exact ⟨cs, rfl, flatL_rep flat1_rep h hc⟩
  · exact flat1_rep h hx
theorem flat_rep {E E' : Env} {x : AV} {v : Value} (h : x.flat = true) (hx : Rep E x v) : Rep E' x v := by
  unfold AV.flat at h
  split at h
  · simp only [Rep] at hx ⊢
    obtain ⟨cs, rfl, hc⟩ := hx
    exact ⟨cs, rfl, flatL_rep flat2_rep h hc⟩
  · exact flat2_rep h hx

/-! ### New names for blocks -/
mutual
def AV.ren (f : Nat → Nat → Option (Nat × Nat)) : AV → AV
  | .ptr i g r o => match f i g with
    | some (i', g') => .ptr i' g' r o
    | none => .any
  | .sl i g o l => match f i g with
    | some (i', g') => .sl i' g' o l
    | none => .any
  | .amap i g => match f i g with
    | some (i', g') => .amap i' g'
    | none => .any
  | .psl i g r o l => match f i g with
    | some (i', g') => .psl i' g' r o l
    | none => .any
  | .slc i g o l c => match f i g with
    | some (i', g') => .slc i' g' o l c
    | none => .any
  | .agg cs => .agg (renL f cs)
  | .tup cs => .tup (renL f cs)
  | .fn fn a b => .fn fn (renL f a) (renL f b)
  | .any => .any
  | .bool b => .bool b
  | .int k n => .int k n
  | .str s => .str s
  | .nilp => .nilp
  | .cptr cs => .cptr cs
  | .nils => .nils
  | .list s rows => .list s rows
  | .nilf => .nilf
  | .nilm => .nilm
def renL (f : Nat → Nat → Option (Nat × Nat)) : List AV → List AV
  | [] => []
  | x :: r => x.ren f :: renL f r
end

/-- The two stores agree along 'f'. -/
structure RenOK (f : Nat → Nat → Option (Nat × Nat)) (E E' : Env) : Prop where
  w : E'.w = E.w
  imm : ∀ b, E.imm b → E'.imm b
  blk : ∀ i g i' g', f i g = some (i', g') → ∀ blk, E.H i = some blk → blk.gen = g → ∃ blk', E'.H i' = some blk' ∧ blk'.gen = g' ∧ blk'.kind = blk.kind ∧ blk'.size = blk.size ∧ E'.φ i' = E.φ i ∧ E'.cs i' = E.cs i
  cur : ∀ i g i' g', f i g = some (i', g') → ∃ blk, E.H i = some blk ∧ blk.gen = g

mutual
theorem ren_rep {f : Nat → Nat → Option (Nat × Nat)} {E E' : Env} (hf : RenOK f E E') : (x : AV) → (v : Value) → Rep E x v → Rep E' (x.ren f) v
  | .any, _, _ => trivial
  | .bool _, _, h => h
  | .int _ _, _, h => h
  | .str _, _, h => h
  | .nilp, _, h => h
  | .ptr i g r o, v, h => by
    simp only [AV.ren]
    cases he : f i g with
    | none => trivial
    | some p =>
      obtain ⟨i', g'⟩ := p
      obtain ⟨blk0, hb0, hg0⟩ := hf.cur i g i' g' he
      simp only [Rep] at h ⊢
      obtain ⟨blk, a, hb, hle, rfl, hg⟩ := h
      rw [hb0] at hb; cases hb
      obtain ⟨blk', q1, q2, q3, q4, q5, q6⟩ := hf.blk i g i' g' he blk0 hb0 hg0
      obtain ⟨k1, rfl⟩ := hg hg0
      exact ⟨blk', _, q1, by omega, rfl, fun _ => ⟨by omega, by rw [q5, q4]⟩⟩
  | .cptr cs, v, h => RepI.mono (fun b hb => ⟨hf.imm b hb, by rw [hf.w]⟩) (.cptr cs) v h
  | .nils, _, h => h
  | .sl i g o l, v, h => by
    simp only [AV.ren]
    cases he : f i g with
    | none => trivial
    | some p =>
      obtain ⟨i', g'⟩ := p
      obtain ⟨blk0, hb0, hg0⟩ := hf.cur i g i' g' he
      simp only [Rep] at h ⊢
      obtain ⟨blk, oa, len', cap, hb, hle, rfl, hg⟩ := h
      rw [hb0] at hb; cases hb
      obtain ⟨blk', q1, q2, q3, q4, q5, q6⟩ := hf.blk i g i' g' he blk0 hb0 hg0
      obtain ⟨k1, k2, k3, k4, k5⟩ := hg hg0
      exact ⟨blk', oa, len', cap, q1, by omega, rfl, fun _ => ⟨by omega, k2, k3, k4, by rw [q5, q4, q6]; exact k5⟩⟩
  | .list s rows, v, h => RepI.mono (fun b hb => ⟨hf.imm b hb, by rw [hf.w]⟩) (.list s rows) v h
  | .nilf, _, h => h
  | .fn fn a b, v, h => by
    simp only [AV.ren, Rep] at h ⊢
    obtain ⟨fs, cs, hv, h1, h2⟩ := h
    exact ⟨fs, cs, hv, renL_rep hf _ _ h1, renL_rep hf _ _ h2⟩
  | .nilm, _, h => h
  | .amap i g, v, h => by
    simp only [AV.ren]
    cases he : f i g with
    | none => trivial
    | some p =>
      obtain ⟨i', g'⟩ := p
      obtain ⟨blk0, hb0, hg0⟩ := hf.cur i g i' g' he
      simp only [Rep] at h ⊢
      obtain ⟨blk, r, hb, hle, rfl, hg⟩ := h
      rw [hb0] at hb; cases hb
      obtain ⟨blk', q1, q2, q3, q4, q5, q6⟩ := hf.blk i g i' g' he blk0 hb0 hg0
      obtain ⟨k1, rfl⟩ := hg hg0
      exact ⟨blk', _, q1, by omega, rfl, fun _ => ⟨by omega, by rw [q5]⟩⟩
  | .slc i g o l c, v, h => by
    simp only [AV.ren]
    cases he : f i g with
    | none => trivial
    | some p =>
      obtain ⟨i', g'⟩ := p
      obtain ⟨blk0, hb0, hg0⟩ := hf.cur i g i' g' he
      simp only [Rep] at h ⊢
      obtain ⟨blk, oa, len', cap, hb, hle, rfl, hg⟩ := h
      rw [hb0] at hb; cases hb
      obtain ⟨blk', q1, q2, q3, q4, q5, q6⟩ := hf.blk i g i' g' he blk0 hb0 hg0
      obtain ⟨k1, k2, k2', k3, k4, k5⟩ := hg hg0
      exact ⟨blk', oa, len', cap, q1, by omega, rfl, fun _ => ⟨by omega, k2, k2', k3, k4, by rw [q5, q4, q6]; exact k5⟩⟩
  | .psl i g r o l, v, h => by
    simp only [AV.ren]
    cases he : f i g with
    | none => trivial
    | some p =>
      obtain ⟨i', g'⟩ := p
      obtain ⟨blk0, hb0, hg0⟩ := hf.cur i g i' g' he
      simp only [Rep] at h ⊢
      obtain ⟨blk, a, cap, hb, hle, rfl, hg⟩ := h
      rw [hb0] at hb; cases hb
      obtain ⟨blk', q1, q2, q3, q4, q5, q6⟩ := hf.blk i g i' g' he blk0 hb0 hg0
      obtain ⟨k1, rfl⟩ := hg hg0
      exact ⟨blk', _, cap, q1, by omega, rfl, fun _ => ⟨by omega, by rw [q5, q4]⟩⟩
  | .agg cs, v, h => by
    simp only [AV.ren, Rep] at h ⊢
    obtain ⟨us, hv, h1⟩ := h
    exact ⟨us, hv, renL_rep hf _ _ h1⟩
  | .tup cs, v, h => by
    simp only [AV.ren, Rep] at h ⊢
    obtain ⟨us, hv, h1⟩ := h
    exact ⟨us, hv, renL_rep hf _ _ h1⟩
theorem renL_rep {f : Nat → Nat → Option (Nat × Nat)} {E E' : Env} (hf : RenOK f E E') : (xs : List AV) → (vs : List Value) → RepL E xs vs → RepL E' (renL f xs) vs
  | [], _, h => h
  | x :: r, vs, h => by
    simp only [renL, RepL] at h ⊢
    obtain ⟨v, vs', hv, h1, h2⟩ := h
    exact ⟨v, vs', hv, ren_rep hf x v h1, renL_rep hf r vs' h2⟩
end
end Go.Abs
