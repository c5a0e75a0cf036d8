/- Making data of blocks: a block that is read as data is written no more. Conditions: none. -/
import Derived.Test.YtidbfifednannaaAbsD
namespace Go.Abs
open Go

theorem Snd.put_then {P : Program} {E E1 : Env} {H : NL ABlk} {c : Sem Value} {id : Nat} {b : ABlk} {p : AP AV} (hw : E1.w = E.w) (hs : Step E E1) (h : Snd P E1 (st H id b) p c) : Snd P E H (.put id b p) c := fun out ho => by
  simp only [AP.run] at ho
  split at ho
  · rename_i o hr
    simp only [Option.some.injEq] at ho
    subst ho
    obtain ⟨v, E', h1, h2, h3, h4, h5, h6⟩ := h o hr
    exact ⟨v, E', by rw [← hw]; exact h1, h2, h3, hs.trans h4, h5, h6⟩
  · cases ho

theorem HR.freeze {E : Env} (hr : HR E) {id : Nat} {blk : ABlk} (hb : E.H id = some blk) (hk : blk.kind = 2) :
    HR ⟨E.w, upd E.H id (some { blk with kind := 1 }), E.φ, E.cs, E.F⟩ ∧ Step E ⟨E.w, upd E.H id (some { blk with kind := 1 }), E.φ, E.cs, E.F⟩ := by
  have hst : Step E ⟨E.w, upd E.H id (some { blk with kind := 1 }), E.φ, E.cs, E.F⟩ := by
    refine ⟨Nat.le_refl _, fun b _ _ => rfl, rfl, fun k b hbk => ?_, fun k b' hbk hkk hck => ?_, Kept.refl _⟩
    · by_cases e : id = k
      · subst e
        rw [hb] at hbk; cases hbk
        exact ⟨{ blk with kind := 1 }, by simp only [upd_same], Nat.le_refl _, fun _ _ => ⟨.inr ⟨hk, rfl⟩, rfl, rfl, rfl, rfl⟩⟩
      · exact ⟨b, by simp [upd_other _ _ _ e, hbk], Nat.le_refl _, fun _ _ => ⟨.inl rfl, rfl, rfl, rfl, rfl⟩⟩
    · left
      by_cases e : id = k
      · subst e
        simp only [upd_same, Option.some.injEq] at hbk
        subst hbk
        simp at hkk
      · exact ⟨b', by simpa [upd_other _ _ _ e] using hbk, hkk, hck, rfl⟩
  have hex : ∀ k b, upd E.H id (some { blk with kind := 1 }) k = some b → ∃ b0, E.H k = some b0 ∧ (b.kind ≠ 0 → b0.kind ≠ 0) := by
    intro k b h
    by_cases e : id = k
    · subst e; simp only [upd_same, Option.some.injEq] at h; subst h; exact ⟨blk, hb, fun _ => by omega⟩
    · exact ⟨b, by simpa [upd_other _ _ _ e] using h, fun h => h⟩
  refine ⟨⟨fun k b hbk => ?_, fun i j bi bj hi hj ki kj ci cj hne => ?_, fun k b hbk hkk hck => ?_, hr.fb⟩, hst⟩
  · by_cases e : id = k
    · subst e
      simp only [upd_same, Option.some.injEq] at hbk
      subst hbk
      obtain ⟨C, c1, c2, c3, c4, c5, c6⟩ := hr.cells hb (.inr hk)
      exact BlkOK.mk_cells (.inl rfl) ⟨C, c1, c2, c3, c4, c5, fun r row j x h1 h2 => by
        obtain ⟨u, d1, d2, d3⟩ := c6 r row j x h1 h2
        exact ⟨u, d1, d2, d3.mono hst⟩⟩
    · simp only [upd_other _ _ _ e] at hbk
      exact BlkOK.mono hst rfl rfl (fun _ _ => rfl) (hr.blk k b hbk)
  · obtain ⟨b1, h1, k1⟩ := hex i bi hi
    obtain ⟨b2, h2, k2⟩ := hex j bj hj
    exact hr.inj i j b1 b2 h1 h2 (k1 ki) (k2 kj) ci cj hne
  · obtain ⟨b1, h1, k1⟩ := hex k b hbk
    exact hr.nf k b1 h1 (k1 hkk) hck

/-- The rows of a block of inline data that nobody writes. -/
theorem block_rows {w : World} {I : Nat → Prop} {blk : ABlk} {C : Array Value} {b off len : Nat} (hheap : w.heap[b]? = some (.cells C blk.elem (0, 0)))
    (hlen : ∀ (r : Nat) (row : List AV), blk.rows[r]? = some row → row.length = blk.size)
    (hc : ∀ (r : Nat) (row : List AV) (j : Nat) (x : AV), blk.rows[r]? = some row → row[j]? = some x → ∃ u, C[r * blk.size + j]? = some u ∧ u.oneCell' = true ∧ RepI w I x u) :
    RepRows w I ((blk.rows.drop off).take len) b (off * blk.size) blk.size := by
  refine RepRows.of_get fun i row h => ?_
  rw [List.getElem?_take] at h
  split at h
  · rw [List.getElem?_drop] at h
    refine ⟨hlen _ _ h, RepC.of_get fun j x hx => ?_⟩
    obtain ⟨u, h1, h2, h3⟩ := hc _ row j x h hx
    refine ⟨u, ?_, h2, h3⟩
    rw [cell_of_heap hheap, ← h1]
    congr 1
    rw [Nat.add_mul]
  · cases h

def frz1 (x : AV) (k : AV → AP AV) : AP AV :=
  match x with
  | .sl id g off len => .get id fun b =>
    if b.gen = g ∧ b.inl = true ∧ off + len ≤ b.rows.length then
      if b.kind = 2 then .put id { b with kind := 1 } (k (.list b.size ((b.rows.drop off).take len)))
      else if b.kind = 1 then k (.list b.size ((b.rows.drop off).take len)) else .fail
    else .fail
  | x => if x.isInl then k x else .fail
def frzL : List AV → (List AV → AP AV) → AP AV
  | [], k => k []
  | x :: r, k => frz1 x fun x' => frzL r fun r' => k (x' :: r')
def frzV (x : AV) (k : AV → AP AV) : AP AV :=
  match x with
  | .agg cs => frzL cs fun cs' => k (.agg cs')
  | .tup cs => frzL cs fun cs' => k (.tup cs')
  | .fn f a b => frzL a fun a' => frzL b fun b' => k (.fn f a' b')
  | x => frz1 x k
def frzVs : List AV → (List AV → AP AV) → AP AV
  | [], k => k []
  | x :: r, k => frzV x fun x' => frzVs r fun r' => k (x' :: r')

/-- The rule by which the four are used: what goes on may lean on inline data, in a store in which some blocks are written no more. -/
def After (P : Program) (E : Env) (H : NL ABlk) (R : Env → Prop) (p : AP AV) (k : AP AV) (c : Sem Value) : Prop :=
  (∀ E1 H1, E1.w = E.w → E1.H = lk H1 → HR E1 → Step E E1 → R E1 → Snd P E1 H1 k c) → Snd P E H p c

theorem slice_inl {E : Env} (hr : HR E) {id : Nat} {blk : ABlk} (hb : E.H id = some blk) (hk : blk.kind = 1) (hi : blk.inl = true) {off len cap : Nat} {oa : Option Addr} (hle : off + len ≤ blk.rows.length) (h1 : len ≤ cap) (h2 : cap ≤ maxLen)
    (h3 : 0 < cap → oa = some ⟨E.φ id, off * blk.size, none⟩ ∧ (off + cap) * blk.size ≤ E.cs id) : RepI E.w E.imm (.list blk.size ((blk.rows.drop off).take len)) (.slice oa len cap) := by
  have hlen : ((blk.rows.drop off).take len).length = len := by rw [List.length_take, List.length_drop]; omega
  simp only [RepI]
  cases oa with
  | none =>
    have hc : cap = 0 := by
      rcases Nat.eq_zero_or_pos cap with h | h
      · exact h
      · cases (h3 h).1
    subst hc
    have : len = 0 := by omega
    subst this
    exact .inl ⟨rfl, List.eq_nil_of_length_eq_zero hlen⟩
  | some a =>
    refine .inr ⟨a, cap, by rw [hlen], by rw [hlen]; exact h1, h2, fun hn => ?_, ?_⟩
    · have hp : 0 < len := by rw [← hlen]; exact List.length_pos_iff.2 hn
      obtain ⟨ea, hcs⟩ := h3 (by omega)
      cases ea
      refine ⟨rfl, ?_⟩
      obtain ⟨C, c1, c2, c3, c4, c5, c6⟩ := hr.cells hb (.inl hk)
      have hcp : 0 < E.cs id := by have : 0 < (off + cap) * blk.size := Nat.mul_pos (by omega) c3; omega
      have hn := hr.nf id blk hb (by omega) hcp
      refine ⟨hn.1, hn.2, fun id' blk' hb' hk' hc' e => ?_⟩
      by_cases ee : id' = id
      · subst ee; rw [hb] at hb'; cases hb'; omega
      · exact hr.inj id' id blk' blk hb' hb (by omega) (by omega) hc' hcp ee e
    · rcases Nat.eq_zero_or_pos len with hp | hp
      · have : (blk.rows.drop off).take len = [] := List.eq_nil_of_length_eq_zero (by rw [hlen]; exact hp)
        rw [this]; simp only [RepRows]
      · obtain ⟨ea, hcs⟩ := h3 (by omega)
        cases ea
        obtain ⟨C, c1, c2, c3, c4, c5, c6⟩ := hr.cells hb (.inl hk)
        have hcp : 0 < E.cs id := by have : 0 < (off + cap) * blk.size := Nat.mul_pos (by omega) c3; omega
        refine block_rows (c1 hcp) c5 fun r row j x q1 q2 => ?_
        obtain ⟨u, d1, d2, d3⟩ := c6 r row j x q1 q2
        rw [hi] at d3
        exact ⟨u, d1, d2, d3⟩

theorem frz1_snd {P : Program} {E : Env} {H : NL ABlk} (hH : E.H = lk H) (hr : HR E) {x : AV} {v : Value} (hx : Rep E x v) {k : AV → AP AV} {c : Sem Value}
    (h : ∀ E1 H1 x', E1.w = E.w → E1.H = lk H1 → HR E1 → Step E E1 → RepI E1.w E1.imm x' v → x'.isInl = true → (x.cellish = true → x'.cellish = true) → Snd P E1 H1 (k x') c) : Snd P E H (frz1 x k) c := by
  unfold frz1
  split
  · rename_i id g off len
    simp only [Rep] at hx
    obtain ⟨blk, oa, len', cap, hb, hle, rfl, hg⟩ := hx
    refine Snd.get (by rw [← hH]; exact hb) ?_
    split
    · rename_i hc
      obtain ⟨g1, g2, g3⟩ := hc
      obtain ⟨hk, rfl, h1, h2, h3⟩ := hg g1
      split
      · rename_i hk2
        obtain ⟨q1, q2⟩ := hr.freeze hb hk2
        refine Snd.put_then (E1 := ⟨E.w, upd E.H id (some { blk with kind := 1 }), E.φ, E.cs, E.F⟩) rfl q2 (h ⟨E.w, upd E.H id (some { blk with kind := 1 }), E.φ, E.cs, E.F⟩ _ _ rfl (by rw [lk_st_upd, hH]) q1 q2 ?_ rfl (fun _ => rfl))
        exact slice_inl (blk := { blk with kind := 1 }) q1 (by simp [upd_same]) rfl g2 g3 h1 h2 h3
      · split
        · rename_i hk1
          exact h _ _ _ rfl hH hr (Step.refl E) (slice_inl hr hb hk1 g2 g3 h1 h2 h3) rfl (fun _ => rfl)
        · exact Snd.fail
    · exact Snd.fail
  · split
    · rename_i hi
      exact h E H x rfl hH hr (Step.refl E) (isInl_rep hx hi) hi (fun h => h)
    · exact Snd.fail

theorem frzL_snd {P : Program} {c : Sem Value} : ∀ {xs : List AV} {E : Env} {H : NL ABlk} (_ : E.H = lk H) (_ : HR E) {vs : List Value} (_ : RepL E xs vs) {k : List AV → AP AV}
    (_ : ∀ E1 H1 xs', E1.w = E.w → E1.H = lk H1 → HR E1 → Step E E1 → RepIL E1.w E1.imm xs' vs → xs'.length = xs.length → (xs'.all AV.isInl) = true → (xs.all AV.cellish = true → xs'.all AV.cellish = true) → Snd P E1 H1 (k xs') c), Snd P E H (frzL xs k) c
  | [], E, H, hH, hr, vs, hx, k, h => h E H [] rfl hH hr (Step.refl E) (by simpa only [RepL, RepIL] using hx) rfl rfl (fun h => h)
  | x :: r, E, H, hH, hr, vs, hx, k, h => by
    simp only [RepL] at hx
    obtain ⟨v, vs', rfl, h1, h2⟩ := hx
    refine frz1_snd hH hr h1 fun E1 H1 x' e1 e2 e3 e4 e5 e6 e7 => ?_
    refine frzL_snd e2 e3 (RepL.mono e4 _ _ h2) fun E2 H2 r' f1 f2 f3 f4 f5 f6 f7 f8 => ?_
    refine h E2 H2 (x' :: r') (f1.trans e1) f2 f3 (e4.trans f4) ?_ (by simp [f6]) (by simp [e6, f7]) (fun hc => ?_)
    · simp only [RepIL]
      exact ⟨v, vs', rfl, RepI.mono f4.inl _ _ e5, f5⟩
    · simp only [List.all_cons, Bool.and_eq_true] at hc ⊢
      exact ⟨e7 hc.1, f8 hc.2⟩

theorem frzV_snd {P : Program} {E : Env} {H : NL ABlk} (hH : E.H = lk H) (hr : HR E) {x : AV} {v : Value} (hx : Rep E x v) {k : AV → AP AV} {c : Sem Value}
    (h : ∀ E1 H1 x', E1.w = E.w → E1.H = lk H1 → HR E1 → Step E E1 → RepI E1.w E1.imm x' v → Snd P E1 H1 (k x') c) : Snd P E H (frzV x k) c := by
  unfold frzV
  split
  · simp only [Rep] at hx
    obtain ⟨cs, rfl, hc⟩ := hx
    refine frzL_snd hH hr hc fun E1 H1 xs' e1 e2 e3 e4 e5 _ _ _ => h E1 H1 _ e1 e2 e3 e4 ?_
    simp only [RepI]; exact ⟨cs, rfl, e5⟩
  · simp only [Rep] at hx
    obtain ⟨cs, rfl, hc⟩ := hx
    refine frzL_snd hH hr hc fun E1 H1 xs' e1 e2 e3 e4 e5 _ _ _ => h E1 H1 _ e1 e2 e3 e4 ?_
    simp only [RepI]; exact ⟨cs, rfl, e5⟩
  · simp only [Rep] at hx
    obtain ⟨fs, cs, rfl, h1, h2⟩ := hx
    refine frzL_snd hH hr h1 fun E1 H1 xs' e1 e2 e3 e4 e5 _ _ _ => ?_
    refine frzL_snd e2 e3 (RepL.mono e4 _ _ h2) fun E2 H2 ys' f1 f2 f3 f4 f5 _ _ _ => h E2 H2 _ (f1.trans e1) f2 f3 (e4.trans f4) ?_
    simp only [RepI]; exact ⟨fs, cs, rfl, RepIL.mono f4.inl _ _ e5, f5⟩
  · exact frz1_snd hH hr hx fun E1 H1 x' e1 e2 e3 e4 e5 _ _ => h E1 H1 x' e1 e2 e3 e4 e5
end Go.Abs
