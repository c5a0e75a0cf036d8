/- Calls that are handed blocks. Conditions: none. -/
import Derived.Test.YtidbfifednannaaAbsR
namespace Go.Abs
open Go

mutual
def AV.refs : AV → List Nat
  | .ptr i _ _ _ => [i]
  | .sl i _ _ _ => [i]
  | .amap i _ => [i]
  | .psl i _ _ _ _ => [i]
  | .slc i _ _ _ _ => [i]
  | .agg cs => refsL cs
  | .tup cs => refsL cs
  | .fn _ a b => refsL a ++ refsL b
  | .any => []
  | .bool _ => []
  | .int _ _ => []
  | .str _ => []
  | .nilp => []
  | .cptr _ => []
  | .nils => []
  | .list _ _ => []
  | .nilf => []
  | .nilm => []
def refsL : List AV → List Nat
  | [] => []
  | x :: r => x.refs ++ refsL r
end
def refsB (b : ABlk) : List Nat := if b.inl = true ∧ b.kind ≠ 3 then [] else b.rows.flatMap refsL

def gather : Nat → List Nat → List (Nat × ABlk) → (List (Nat × ABlk) → AP AV) → AP AV
  | _, [], acc, k => k acc
  | 0, _ :: _, _, _ => .fail
  | n + 1, i :: r, acc, k => if acc.any (fun p => p.1 == i) then gather n r acc k else .get i fun b => if b.kind = 0 then .fail else gather n (r ++ refsB b) (acc ++ [(i, b)]) k
def getGens : List Nat → List Nat → (List Nat → AP AV) → AP AV
  | [], acc, k => k acc
  | i :: r, acc, k => .get i fun old => getGens r (acc ++ [old.gen + 1]) k
def putsA : List (Nat × ABlk) → AP AV → AP AV
  | [], k => k
  | (i, b) :: r, k => .put i b (putsA r k)
def freshIds (base : Nat) (L : List (Nat × ABlk)) (n : Nat) : List Nat := (((List.range 16).map (base + ·)).filter fun i => L.all fun p => p.1 != i).take n
def idsOf (L : List (Nat × ABlk)) (B : List ABlk) (news gs : List Nat) : List (Nat × Nat) := (L.zip B).map (fun p => (p.1.1, p.1.2.gen + p.2.gen)) ++ news.zip gs
def callB (dst : Nat) (S : SpecFn) (args : List AV) : AP AV :=
  gather 64 (refsL args) [] fun L => match S (renL (fF L) args) (handB L) with
    | some (r, B) =>
      if L.length ≤ B.length ∧ (freshIds (newId dst) L (B.length - L.length)).length = B.length - L.length ∧ B.all (fun b => b.gen == 0 || b.gen == 1 && b.kind == 2) ∧ (B.drop L.length).all (fun b => decide (2 ≤ b.kind) && b.gen == 0) then
        getGens (freshIds (newId dst) L (B.length - L.length)) [] fun gs =>
          putsA (backL (idsOf L B (freshIds (newId dst) L (B.length - L.length)) gs) B) (.ret (r.ren (backF (idsOf L B (freshIds (newId dst) L (B.length - L.length)) gs) B)))
      else .fail
    | none => .fail

/-- Slices of plain data are handed over as data that stays; all else as it is. -/
def frq1 (x : AV) (k : AV → AP AV) : AP AV :=
  match x with
  | .sl id g off len => .get id fun b => if b.inl = true then frz1 (.sl id g off len) k else k (.sl id g off len)
  | x => k x
def frqL : List AV → (List AV → AP AV) → AP AV
  | [], k => k []
  | x :: r, k => frq1 x fun x' => frqL r fun r' => k (x' :: r')
def frqV (x : AV) (k : AV → AP AV) : AP AV :=
  match x with
  | .agg cs => frqL cs fun cs' => k (.agg cs')
  | x => frq1 x k
def frqVs : List AV → (List AV → AP AV) → AP AV
  | [], k => k []
  | x :: r, k => frqV x fun x' => frqVs r fun r' => k (x' :: r')

def callX (specs : FuncId → Option Spec) (dst : Nat) (f : FuncId) (args : List AV) : AP AV :=
  match specs f with
  | some ⟨2, S⟩ => frqVs args fun args' => callB dst S args'
  | some ⟨3, S⟩ => callB dst S args
  | _ => callA specs dst f args

/-! ### They are sound -/
theorem SndW.getD {E : Env} {H : NL ABlk} {A : ActW} {id : Nat} {k : ABlk → AP AV} (h : SndW E H (k ((lk H id).getD {})) A) : SndW E H (.get id k) A := by
  cases hb : lk H id with
  | some b => exact SndW.get hb (by simpa [hb] using h)
  | none =>
    intro out h'
    simp only [AP.run, hb] at h'
    split at h'
    · rename_i o ho
      simp only [Option.some.injEq] at h'
      subst h'
      exact h o (by simpa [hb] using ho)
    · cases h'
def accOK (H : NL ABlk) (L : List (Nat × ABlk)) : Prop := (L.map (·.1)).Nodup ∧ ∀ p ∈ L, lk H p.1 = some p.2 ∧ p.2.kind ≠ 0
theorem gather_w {E : Env} {H : NL ABlk} {A : ActW} {k : List (Nat × ABlk) → AP AV} (hk : ∀ L, accOK H L → SndW E H (k L) A) : ∀ (n : Nat) (todo : List Nat) (acc : List (Nat × ABlk)), accOK H acc → SndW E H (gather n todo acc k) A
  | 0, [], acc, h => by simpa only [gather] using hk acc h
  | _ + 1, [], acc, h => by simpa only [gather] using hk acc h
  | 0, _ :: _, _, _ => by simpa only [gather] using SndW.fail
  | n + 1, i :: r, acc, h => by
    simp only [gather]
    split
    · exact gather_w hk n r acc h
    · rename_i hn
      refine SndW.getD ?_
      split
      · exact SndW.fail
      · rename_i hz
        refine gather_w hk n _ _ ⟨?_, ?_⟩
        · rw [List.map_append, List.nodup_append]
          refine ⟨h.1, by simp, fun a ha b hb => ?_⟩
          simp only [List.map_cons, List.map_nil, List.mem_singleton] at hb
          subst hb
          rintro rfl
          apply hn
          obtain ⟨p, hp, he⟩ := List.mem_map.1 ha
          exact List.any_eq_true.2 ⟨p, hp, by simp [he]⟩
        · intro p hp
          rcases List.mem_append.1 hp with hp | hp
          · exact h.2 p hp
          · simp only [List.mem_singleton] at hp
            subst hp
            cases hb : lk H i with
            | none => simp [hb] at hz
            | some b => simp [hb] at hz ⊢; exact hz
theorem getGens_w {E : Env} {H : NL ABlk} {A : ActW} {k : List Nat → AP AV} : ∀ (news acc : List Nat), SndW E H (k (acc ++ news.map (genOf H))) A → SndW E H (getGens news acc k) A
  | [], acc, h => by simpa [getGens] using h
  | i :: r, acc, h => by
    simp only [getGens]
    refine SndW.getD (getGens_w r _ ?_)
    simpa [genOf] using h
theorem putsA_run {x : AV} : ∀ (l : List (Nat × ABlk)) (H : NL ABlk) (out : Out AV), (putsA l (.ret x)).run H = some out → out.val = x ∧ out.H = puts H l ∧ out.as = True
  | [], H, out, h => by
    simp only [putsA, AP.run, Option.some.injEq] at h
    subst h
    exact ⟨rfl, rfl, rfl⟩
  | (i, b) :: r, H, out, h => by
    simp only [putsA, AP.run] at h
    split at h
    · rename_i o ho
      simp only [Option.some.injEq] at h
      subst h
      exact putsA_run r _ o ho
    · cases h
theorem freshIds_nodup (base : Nat) (L : List (Nat × ABlk)) (n : Nat) : (freshIds base L n).Nodup := by
  unfold freshIds
  refine List.Nodup.sublist ((List.take_sublist _ _).trans List.filter_sublist) ?_
  unfold List.Nodup
  rw [List.pairwise_map]
  exact List.Pairwise.imp (fun h e => by omega) List.pairwise_lt_range
theorem freshIds_out {base : Nat} {L : List (Nat × ABlk)} {n i : Nat} (h : i ∈ freshIds base L n) : ∀ p ∈ L, p.1 ≠ i := by
  unfold freshIds at h
  have := List.mem_of_mem_take h
  simp only [List.mem_filter, List.all_eq_true, bne_iff_ne] at this
  exact this.2

theorem callB_w {P : Program} {f : FuncId} {S : SpecFn} (hf : FnC P f S) {E : Env} {H : NL ABlk} (hH : E.H = lk H) (hr : HR E) {dst : Nat} {args : List AV} {vs : Array Value} (hx : RepL E args vs.toList) :
    SndW E H (callB dst S args) (CallAct P f vs) := by
  unfold callB
  refine gather_w (fun L hL => ?_) 64 _ [] ⟨by simp, by simp⟩
  split
  · rename_i r B hS
    split
    · rename_i hc
      obtain ⟨c1, c2, c3, c4⟩ := hc
      generalize hnews : freshIds (newId dst) L (B.length - L.length) = news at c2
      refine getGens_w _ _ ?_
      simp only [List.nil_append]
      intro out ho
      obtain ⟨q1, q2, q3⟩ := putsA_run _ _ _ ho
      obtain ⟨k1, k2⟩ := hand_over hH hr hL.1 hL.2
      have hargs : RepL (envB E L) (renL (fF L) args) vs.toList := renL_rep k2 _ _ hx
      have hcall := hf.calls _ _ r B hS (envB E L) vs rfl k1 hargs
      refine hcall.mono fun e w' ⟨v, Ec, h1, h2, h3, h4, h5, h6⟩ => ⟨v, h1, by rw [q3]; trivial, ?_⟩
      have hzip : (news.zip (news.map (genOf H))).length = news.length := by simp
      have hmap : (news.zip (news.map (genOf H))).map (·.1) = news := List.map_fst_zip (by simp)
      have hn1 : ∀ i ∈ news, ∀ p ∈ L, p.1 ≠ i := fun i hi => freshIds_out (by rw [hnews]; exact hi)
      obtain ⟨E', e1, e2, e3, e4, e5⟩ := adoptB hH hr hL.1 hL.2 h3 h4 h5 (fun j b _ hb => by simpa using List.all_eq_true.1 c3 b (List.mem_of_getElem? hb)) (fun j b hj hb => by
          have := List.all_eq_true.1 c4 b (by
            refine List.mem_of_getElem? (i := j - L.length) ?_
            rw [List.getElem?_drop]
            rw [show L.length + (j - L.length) = j from by omega]
            exact hb)
          simp only [Bool.and_eq_true, beq_iff_eq] at this
          exact this.2) (ids := idsOf L B news (news.map (genOf H)))
        (by simp [idsOf]; omega)
        (by
          have : (idsOf L B news (news.map (genOf H))).map (·.1) = L.map (·.1) ++ news := by
            rw [idsOf, List.map_append, hmap, List.map_map]
            congr 1
            calc List.map _ (L.zip B) = ((L.zip B).map (·.1)).map (·.1) := by rw [List.map_map]; rfl
              _ = _ := by rw [List.map_fst_zip c1]
          rw [this, List.nodup_append]
          refine ⟨hL.1, by rw [← hnews]; exact freshIds_nodup _ _ _, fun a ha b hb e => ?_⟩
          obtain ⟨p, hp, he⟩ := List.mem_map.1 ha
          exact hn1 b hb p hp (he.trans e))
        (by simp [idsOf]; omega)
        (fun j id g bj hj hi hb => by
          simp only [idsOf] at hi
          rw [List.getElem?_append_left (by simp; omega)] at hi
          simp only [List.getElem?_map, Option.map_eq_some_iff, Prod.mk.injEq] at hi
          obtain ⟨p, hp, rfl, rfl⟩ := hi
          have hz := List.getElem?_zip_eq_some.1 hp
          rw [hb] at hz
          obtain ⟨z1, z2⟩ := hz
          simp only [Option.some.injEq] at z2
          rw [z2]
          exact ⟨p.1.2, z1, rfl⟩)
        (fun j id g hj hi => by
          have hlz : (L.zip B).length = L.length := by simp; omega
          simp only [idsOf] at hi
          rw [List.getElem?_append_right (by simp; omega)] at hi
          simp only [List.length_map, hlz] at hi
          have hi2 := List.getElem?_zip_eq_some.1 hi
          obtain ⟨hi3, hi4⟩ := hi2
          refine ⟨hn1 id (List.mem_of_getElem? hi3), ?_⟩
          simp only [List.getElem?_map, hi3, Option.map_some, Option.some.injEq] at hi4
          exact hi4.symm)
        (fun j b hj hb => by
          have := List.all_eq_true.1 c4 b (by
            refine List.mem_of_getElem? (i := j - L.length) ?_
            rw [List.getElem?_drop]
            rw [show L.length + (j - L.length) = j from by omega]
            exact hb)
          simp only [Bool.and_eq_true, decide_eq_true_eq, beq_iff_eq] at this; exact this.1)
      refine ⟨E', e1.trans h2, ?_, e3, e4, ?_⟩
      · rw [e2, q2]
      · rw [q1]
        exact ren_rep e5 _ _ h6
    · exact SndW.fail
  · exact SndW.fail

theorem frq1_w {E : Env} {H : NL ABlk} (hH : E.H = lk H) (hr : HR E) {x : AV} {v : Value} (hx : Rep E x v) {k : AV → AP AV} {A : ActW}
    (h : ∀ E1 H1 x', E1.w = E.w → E1.H = lk H1 → HR E1 → Step E E1 → Rep E1 x' v → SndW E1 H1 (k x') A) : SndW E H (frq1 x k) A := by
  unfold frq1
  split
  · refine SndW.getD ?_
    split
    · exact frz1_w hH hr hx fun E1 H1 x' e1 e2 e3 e4 e5 => h E1 H1 x' e1 e2 e3 e4 e5.rep
    · exact h E H _ rfl hH hr (Step.refl E) hx
  · exact h E H _ rfl hH hr (Step.refl E) hx
theorem frqL_w : ∀ {xs : List AV} {E : Env} {H : NL ABlk} (_ : E.H = lk H) (_ : HR E) {vs : List Value} (_ : RepL E xs vs) {k : List AV → AP AV} {A : ActW}
    (_ : ∀ E1 H1 xs', E1.w = E.w → E1.H = lk H1 → HR E1 → Step E E1 → RepL E1 xs' vs → SndW E1 H1 (k xs') A), SndW E H (frqL xs k) A
  | [], E, H, hH, hr, vs, hx, k, A, h => by
    simp only [frqL]
    exact h E H [] rfl hH hr (Step.refl E) hx
  | x :: r, E, H, hH, hr, vs, hx, k, A, h => by
    simp only [RepL] at hx
    obtain ⟨v, vs', rfl, h1, h2⟩ := hx
    simp only [frqL]
    refine frq1_w hH hr h1 fun E1 H1 x' e1 e2 e3 e4 e5 => ?_
    refine frqL_w e2 e3 (RepL.mono e4 _ _ h2) fun E2 H2 r' f1 f2 f3 f4 f5 => ?_
    refine h E2 H2 (x' :: r') (f1.trans e1) f2 f3 (e4.trans f4) ?_
    simp only [RepL]
    exact ⟨v, vs', rfl, Rep.mono f4 _ _ e5, f5⟩
theorem frqV_w {E : Env} {H : NL ABlk} (hH : E.H = lk H) (hr : HR E) {x : AV} {v : Value} (hx : Rep E x v) {k : AV → AP AV} {A : ActW}
    (h : ∀ E1 H1 x', E1.w = E.w → E1.H = lk H1 → HR E1 → Step E E1 → Rep E1 x' v → SndW E1 H1 (k x') A) : SndW E H (frqV x k) A := by
  unfold frqV
  split
  · simp only [Rep] at hx
    obtain ⟨cs, rfl, hc⟩ := hx
    refine frqL_w hH hr hc fun E1 H1 cs' e1 e2 e3 e4 e5 => h E1 H1 _ e1 e2 e3 e4 ?_
    simp only [Rep]
    exact ⟨cs, rfl, e5⟩
  · exact frq1_w hH hr hx h
theorem frqVs_w : ∀ {xs : List AV} {E : Env} {H : NL ABlk} (_ : E.H = lk H) (_ : HR E) {vs : List Value} (_ : RepL E xs vs) {k : List AV → AP AV} {A : ActW}
    (_ : ∀ E1 H1 xs', E1.w = E.w → E1.H = lk H1 → HR E1 → Step E E1 → RepL E1 xs' vs → SndW E1 H1 (k xs') A), SndW E H (frqVs xs k) A
  | [], E, H, hH, hr, vs, hx, k, A, h => by
    simp only [frqVs]
    exact h E H [] rfl hH hr (Step.refl E) hx
  | x :: r, E, H, hH, hr, vs, hx, k, A, h => by
    simp only [RepL] at hx
    obtain ⟨v, vs', rfl, h1, h2⟩ := hx
    simp only [frqVs]
    refine frqV_w hH hr h1 fun E1 H1 x' e1 e2 e3 e4 e5 => ?_
    refine frqVs_w e2 e3 (RepL.mono e4 _ _ h2) fun E2 H2 r' f1 f2 f3 f4 f5 => ?_
    refine h E2 H2 (x' :: r') (f1.trans e1) f2 f3 (e4.trans f4) ?_
    simp only [RepL]
    exact ⟨v, vs', rfl, Rep.mono f4 _ _ e5, f5⟩

theorem callX_w {P : Program} {specs : FuncId → Option Spec} (hsp : ∀ f s, specs f = some s → FnC P f s.fn) {E : Env} {H : NL ABlk} (hH : E.H = lk H) (hr : HR E) {dst : Nat} {f : FuncId} {args : List AV} {vs : Array Value} (hx : RepL E args vs.toList) :
    SndW E H (callX specs dst f args) (CallAct P f vs) := by
  unfold callX
  split
  · rename_i S hs
    refine frqVs_w hH hr hx fun E1 H1 args' e1 e2 e3 e4 e5 => ?_
    exact callB_w (hsp f _ hs) e2 e3 e5
  · rename_i S hs
    exact callB_w (hsp f _ hs) hH hr hx
  · exact call_w hsp hH hr hx
end Go.Abs
