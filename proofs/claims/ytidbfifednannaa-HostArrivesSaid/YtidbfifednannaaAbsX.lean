/- Running a program in the abstract frame: what a closed call answers, by computation. Conditions: none. -/
import Derived.Test.YtidbfifednannaaAbsTn
namespace Go.Abs
open Go

def loopE (B : AS → Option (Exit × AS)) : Nat → AS → Option (Exit × AS)
  | 0, _ => none
  | k + 1, σ => match B σ with
    | some (.normal, σ') => loopE B k σ'
    | r => r
/-- A place for blocks behind all that are there: each region's new blocks get names of their own. -/
def freshK (H : NL ABlk) : Nat := H.foldl (fun m p => max m p.1) 0 / 16 + 1
def execC (P : Program) (specs : FuncId → Option Spec) (L : Nat) : Code → AS → Option (Exit × AS)
  | .skip, σ => some (.normal, σ)
  | .label _, σ => some (.normal, σ)
  | .region _ ops draw, σ => match runR P specs (freshK σ.heap) ops draw σ with
    | some (σ', _) => some (.normal, σ')
    | none => none
  | .seq x y, σ => match execC P specs L x σ with
    | some (.normal, σ') => execC P specs L y σ'
    | r => r
  | .cond c x y, σ => match σ.ev c with
    | .bool true => execC P specs L x σ
    | .bool false => execC P specs L y σ
    | _ => none
  | .block id x, σ => match execC P specs L x σ with
    | some (.exit i, σ') => if i = id then some (.normal, σ') else some (.exit i, σ')
    | r => r
  | .loop x, σ => loopE (execC P specs L x) L σ
  | .exit id, σ => some (.exit id, σ)
  | .ret, σ => some (.ret, σ)
  | .scope x, σ => match execC P specs L x σ with
    | some (.goto _, _) => none
    | r => r
  | _, _ => none

theorem execC_ok {P : Program} {specs : FuncId → Option Spec} {L : Nat} : ∀ (c : Code) {Q : Exit → AS → Prop} {σ : AS} {e : Exit} {σ' : AS}, execC P specs L c σ = some (e, σ') → Q e σ' → awp P specs c Q σ
  | .skip, Q, σ, e, σ', h, hq => by simp only [execC, Option.some.injEq, Prod.mk.injEq] at h; obtain ⟨rfl, rfl⟩ := h; exact hq
  | .label _, Q, σ, e, σ', h, hq => by simp only [execC, Option.some.injEq, Prod.mk.injEq] at h; obtain ⟨rfl, rfl⟩ := h; exact hq
  | .region _ ops draw, Q, σ, e, σ', h, hq => by
    simp only [execC] at h
    simp only [awp]
    split at h
    · rename_i σ1 A h1
      simp only [Option.some.injEq, Prod.mk.injEq] at h
      obtain ⟨rfl, rfl⟩ := h
      exact ⟨_, by rw [h1]; exact fun _ => hq⟩
    · cases h
  | .seq x y, Q, σ, e, σ', h, hq => by
    simp only [execC] at h
    simp only [awp]
    split at h
    · rename_i σ1 h1
      exact execC_ok x h1 (execC_ok y h hq)
    · rename_i r hr
      refine execC_ok x h ?_
      cases e with
      | normal => exact absurd h (hr σ')
      | _ => exact hq
  | .cond c x y, Q, σ, e, σ', h, hq => by
    simp only [execC] at h
    simp only [awp]
    split at h
    · rename_i hc
      rw [hc]
      exact ⟨fun _ => execC_ok x h hq, fun hb => by cases hb⟩
    · rename_i hc
      rw [hc]
      exact ⟨fun hb => (by cases hb), fun _ => execC_ok y h hq⟩
    · cases h
  | .block id x, Q, σ, e, σ', h, hq => by
    simp only [execC] at h
    simp only [awp]
    split at h
    · rename_i i σ1 h1
      refine execC_ok x h1 ?_
      split at h
      · rename_i hi
        simp only [Option.some.injEq, Prod.mk.injEq] at h
        obtain ⟨rfl, rfl⟩ := h
        simp only [if_pos hi]
        exact hq
      · rename_i hi
        simp only [Option.some.injEq, Prod.mk.injEq] at h
        obtain ⟨rfl, rfl⟩ := h
        simp only [if_neg hi]
        exact hq
    · rename_i r hr
      refine execC_ok x h ?_
      cases e with
      | exit i => exact absurd h (hr i σ')
      | _ => exact hq
  | .loop x, Q, σ, e, σ', h, hq => by
    simp only [execC] at h
    simp only [awp]
    have key : ∀ (n : Nat) (σ : AS), loopE (execC P specs L x) n σ = some (e, σ') → loopN (awp P specs x) Q n σ := by
      intro n
      induction n with
      | zero => intro σ h; cases h
      | succ n ih =>
        intro σ h
        simp only [loopE] at h
        simp only [loopN]
        split at h
        · rename_i σ1 h1
          exact execC_ok x h1 (ih σ1 h)
        · rename_i r hr
          refine execC_ok x h ?_
          cases e with
          | normal => exact absurd h (hr σ')
          | _ => exact hq
    exact ⟨L, key L σ h⟩
  | .exit id, Q, σ, e, σ', h, hq => by simp only [execC, Option.some.injEq, Prod.mk.injEq] at h; obtain ⟨rfl, rfl⟩ := h; exact hq
  | .ret, Q, σ, e, σ', h, hq => by simp only [execC, Option.some.injEq, Prod.mk.injEq] at h; obtain ⟨rfl, rfl⟩ := h; exact hq
  | .rangeFunc .., _, _, _, _, h, _ => by simp [execC] at h
  | .scope x, Q, σ, e, σ', h, hq => by
    simp only [execC] at h
    simp only [awp]
    split at h
    · cases h
    · rename_i r hr
      refine execC_ok x h ?_
      cases e with
      | goto l => exact absurd h (hr l σ')
      | _ => exact hq
  | .goto _, _, _, _, _, h, _ => by simp [execC] at h
  | .refuse _, _, _, _, _, h, _ => by simp [execC] at h

/-! ### What a call leaves -/
def seqO {α : Type} : List (Option α) → Option (List α)
  | [] => some []
  | some x :: r => match seqO r with
    | some l => some (x :: l)
    | none => none
  | none :: _ => none
theorem seqO_some {α : Type} : ∀ {l : List (Option α)} {B : List α}, seqO l = some B → l = B.map some
  | [], B, h => by simp only [seqO, Option.some.injEq] at h; subst h; rfl
  | some x :: r, B, h => by
    simp only [seqO] at h
    split at h
    · rename_i l hl
      simp only [Option.some.injEq] at h
      subst h
      rw [seqO_some hl]
      rfl
    · cases h
  | none :: _, B, h => by simp [seqO] at h
def reachE (H : NL ABlk) : Nat → List Nat → List Nat → List Nat
  | _, [], acc => acc
  | 0, _, acc => acc
  | n + 1, i :: r, acc => if acc.contains i then reachE H n r acc else match lk H i with
    | some b => if b.kind = 0 then reachE H n r acc else reachE H n (r ++ refsB b) (acc ++ [i])
    | none => reachE H n r acc
def blkRefs (H : NL ABlk) (i : Nat) : List Nat := match lk H i with
  | some b => refsB b
  | none => []
def nodupE : List Nat → Bool
  | [] => true
  | x :: r => !r.contains x && nodupE r
theorem nodupE_ok : ∀ {l : List Nat}, nodupE l = true → l.Nodup
  | [], _ => List.nodup_nil
  | x :: r, h => by
    simp only [nodupE, Bool.and_eq_true, Bool.not_eq_true', List.contains_eq_mem, decide_eq_false_iff_not] at h
    exact List.nodup_cons.2 ⟨h.1, nodupE_ok h.2⟩
def firstE (H : NL ABlk) (exp : List Nat) : Nat → Bool
  | 0 => true
  | k + 1 => (match exp[k]?, lk H k with
    | some i, some b => i == k && b.gen == 0
    | _, _ => false) && firstE H exp k
theorem firstE_ok {H : NL ABlk} {exp : List Nat} : ∀ {k : Nat}, firstE H exp k = true → ∀ i, i < k → exp[i]? = some i ∧ (lk H i).map (·.gen) = some 0
  | 0, _, i, hi => by omega
  | k + 1, h, i, hi => by
    simp only [firstE, Bool.and_eq_true] at h
    by_cases e : i = k
    · subst e
      have h1 := h.1
      split at h1
      · rename_i j b h2 h3
        simp only [Bool.and_eq_true, beq_iff_eq] at h1
        rw [h2, h3, h1.1]
        simp [h1.2]
      · cases h1
    · exact firstE_ok h.2 i (by omega)
def outE (H : NL ABlk) (k : Nat) (v : AV) (exp : List Nat) : Option (AV × List ABlk) :=
  if nodupE exp && firstE H exp k then match seqO (exp.map (expB2 exp H)) with
    | some B => some (v.ren (expF exp H), B)
    | none => none
  else none
def retE1 (P : Program) (fn : Func) (k : Nat) (σ : AS) : Option (AV × List ABlk) :=
  match resVs P σ fn.results.toList with
  | some xs => outE σ.heap k (pack xs) (reachE σ.heap 200 (((List.range k).flatMap (blkRefs σ.heap)) ++ (pack xs).refs) (List.range k))
  | none => none
theorem retE1_ok {P : Program} {fn : Func} {k : Nat} {σ : AS} {r : AV} {B : List ABlk} (h : retE1 P fn k σ = some (r, B)) : RetB P fn k r B σ := by
  unfold retE1 at h
  split at h
  · rename_i xs hx
    generalize reachE σ.heap 200 (((List.range k).flatMap (blkRefs σ.heap)) ++ (pack xs).refs) (List.range k) = exp at h
    unfold outE at h
    split at h
    · rename_i hc
      simp only [Bool.and_eq_true] at hc
      split at h
      · rename_i B' hB
        simp only [Option.some.injEq, Prod.mk.injEq] at h
        obtain ⟨rfl, rfl⟩ := h
        exact ⟨xs, hx, false, ⟨pack xs, σ.heap, [], [], True⟩, rfl, exp, nodupE_ok hc.1, firstE_ok hc.2, seqO_some hB, rfl⟩
      · cases h
    · cases h
  · cases h

/-! ### Slices of data that stays, told as data -/
def nzV (H : NL ABlk) (x : AV) : AV := match x with
  | .sl id g off len => match lk H id with
    | some b => if b.gen = g ∧ b.kind = 1 ∧ b.inl = true ∧ off + len ≤ b.rows.length then .list b.size ((b.rows.drop off).take len) else .sl id g off len
    | none => .sl id g off len
  | x => x
theorem nzV_rep {E : Env} {H : NL ABlk} (hH : E.H = lk H) (hr : HR E) {x : AV} {v : Value} (hx : Rep E x v) : Rep E (nzV H x) v := by
  unfold nzV
  split
  · rename_i id g off len
    split
    · rename_i b hb
      split
      · rename_i hc
        obtain ⟨g1, g2, g3, g4⟩ := hc
        have hx' := hx
        simp only [Rep] at hx'
        obtain ⟨blk, oa, len', cap, hb', hle, rfl, hg⟩ := hx'
        rw [hH, hb] at hb'; cases hb'
        obtain ⟨hk, rfl, h1, h2, h3⟩ := hg g1
        exact RepI.rep _ _ (slice_inl hr (by rw [hH]; exact hb) g2 g3 g4 h1 h2 h3)
      · exact hx
    · exact hx
  · exact hx
theorem nzL_rep {E : Env} {H : NL ABlk} (hH : E.H = lk H) (hr : HR E) : ∀ {xs : List AV} {vs : List Value}, RepL E xs vs → RepL E (xs.map (nzV H)) vs
  | [], _, h => h
  | x :: r, vs, h => by
    simp only [RepL, List.map_cons] at h ⊢
    obtain ⟨v, vs', hv, h1, h2⟩ := h
    exact ⟨v, vs', hv, nzV_rep hH hr h1, nzL_rep hH hr h2⟩
def nzA (H : NL ABlk) (x : AV) : AV := match x with
  | .agg cs => .agg (cs.map (nzV H))
  | x => nzV H x
theorem nzA_rep {E : Env} {H : NL ABlk} (hH : E.H = lk H) (hr : HR E) {x : AV} {v : Value} (hx : Rep E x v) : Rep E (nzA H x) v := by
  unfold nzA
  split
  · simp only [Rep] at hx ⊢
    obtain ⟨cs, hv, h1⟩ := hx
    exact ⟨cs, hv, nzL_rep hH hr h1⟩
  · exact nzV_rep hH hr hx
theorem nzAL_rep {E : Env} {H : NL ABlk} (hH : E.H = lk H) (hr : HR E) : ∀ {xs : List AV} {vs : List Value}, RepL E xs vs → RepL E (xs.map (nzA H)) vs
  | [], _, h => h
  | x :: r, vs, h => by
    simp only [RepL, List.map_cons] at h ⊢
    obtain ⟨v, vs', hv, h1, h2⟩ := h
    exact ⟨v, vs', hv, nzA_rep hH hr h1, nzAL_rep hH hr h2⟩
def nzT (H : NL ABlk) (x : AV) : AV := match x with
  | .tup cs => .tup (cs.map (nzA H))
  | x => nzA H x
theorem nzT_rep {E : Env} {H : NL ABlk} (hH : E.H = lk H) (hr : HR E) {x : AV} {v : Value} (hx : Rep E x v) : Rep E (nzT H x) v := by
  unfold nzT
  split
  · simp only [Rep] at hx ⊢
    obtain ⟨cs, hv, h1⟩ := hx
    exact ⟨cs, hv, nzAL_rep hH hr h1⟩
  · exact nzA_rep hH hr hx
def normH : NL ABlk → List Nat → NL ABlk
  | H, [] => H
  | H, i :: r => match lk H i with
    | some b => if b.kind = 2 ∧ b.inl = false then normH (st H i { b with rows := b.rows.map fun row => row.map (nzV H) }) r else normH H r
    | none => normH H r
theorem normH_env : ∀ (ids : List Nat) {H : NL ABlk} {E : Env}, E.H = lk H → HR E → ∃ E1, E1.w = E.w ∧ E1.H = lk (normH H ids) ∧ HR E1 ∧ Step E E1
  | [], H, E, hH, hr => ⟨E, rfl, hH, hr, Step.refl E⟩
  | i :: r, H, E, hH, hr => by
    simp only [normH]
    split
    · rename_i b hb
      split
      · rename_i hc
        obtain ⟨hk, hi⟩ := hc
        have hbE : E.H i = some b := by rw [hH]; exact hb
        have key : ∃ E1 : Env, E1.w = E.w ∧ E1.H = upd E.H i (some { b with rows := b.rows.map fun row => row.map (nzV H) }) ∧ HR E1 ∧ Step E E1 := by
          obtain ⟨C, hC, hcs, hsz, hlen, hrl, hcell⟩ := hr.cells hbE (.inr hk)
          rcases Nat.eq_zero_or_pos (E.cs i) with h0 | hcp
          · have hrows : b.rows = [] := by
              refine List.eq_nil_of_length_eq_zero ?_
              rcases Nat.eq_zero_or_pos b.rows.length with q | q
              · exact q
              · have := Nat.mul_pos q hsz; omega
            refine ⟨E, rfl, ?_, hr, Step.refl E⟩
            have he : ({ b with rows := b.rows.map fun row => row.map (nzV H) } : ABlk) = b := by
              rw [hrows]; simp only [List.map_nil]; rw [← hrows]
            rw [he]
            funext k
            by_cases e : i = k
            · subst e; simp only [upd_same]; exact hbE
            · simp only [upd_other _ _ _ e]
          · obtain ⟨q1, q2⟩ := hr.write (blk' := { b with rows := b.rows.map fun row => row.map (nzV H) }) (C := C) (w' := E.w) hbE hk hcp ⟨rfl, rfl, rfl, rfl⟩ (fun _ _ => rfl) (hC hcp) hcs hk (Nat.le_refl _) rfl rfl
              (by simpa using hlen)
              (fun r row h => by
                simp only [List.getElem?_map, Option.map_eq_some_iff] at h
                obtain ⟨row0, h1, rfl⟩ := h
                simpa using hrl r row0 h1)
              (fun r row j x h hx => by
                simp only [List.getElem?_map, Option.map_eq_some_iff] at h
                obtain ⟨row0, h1, rfl⟩ := h
                simp only [List.getElem?_map, Option.map_eq_some_iff] at hx
                obtain ⟨x0, h2, rfl⟩ := hx
                obtain ⟨u, p1, p2, p3⟩ := hcell r row0 j x0 h1 h2
                refine ⟨u, p1, p2, ?_⟩
                simp only [hi, CellR] at p3 ⊢
                exact nzV_rep hH hr p3)
            exact ⟨⟨E.w, upd E.H i (some { b with rows := b.rows.map fun row => row.map (nzV H) }), E.φ, E.cs, E.F⟩, rfl, rfl, q1, q2⟩
        obtain ⟨E1, e1, e2, e3, e4⟩ := key
        obtain ⟨E2, f1, f2, f3, f4⟩ := normH_env r (H := st H i { b with rows := b.rows.map fun row => row.map (nzV H) }) (E := E1) (by rw [e2, hH, lk_st_upd]) e3
        exact ⟨E2, f1.trans e1, f2, f3, e4.trans f4⟩
      · exact normH_env r hH hr
    · exact normH_env r hH hr

/-- What a walked function leaves, told after such a change. -/
def RetN (P : Program) (fn : Func) (k : Nat) (r : AV) (B : List ABlk) (σ : AS) : Prop :=
  ∃ xs, resVs P σ fn.results.toList = some xs ∧ ∃ ids : List Nat, ∃ exp gs : List Nat, exp.Nodup ∧ gs.length = exp.length ∧
    (∀ i, i < k → gs[i]? = some 0 ∧ exp[i]? = some i ∧ (lk (normH σ.heap ids) i).map (·.gen) = some 0 ∨ gs[i]? = some 1) ∧ (∀ i id, exp[i]? = some id → id < k → i = id) ∧
    exp.zipWith (expB3 exp gs (normH σ.heap ids)) gs = B.map some ∧ r = (nzT (normH σ.heap ids) (pack xs)).ren (expG exp gs (normH σ.heap ids))
def genE (H : NL ABlk) (k : Nat) (exp : List Nat) : List Nat := exp.zipIdx.map fun p => if decide (p.2 < k) then match lk H p.1 with
  | some b => if b.gen == 0 then 0 else 1
  | none => 1
  else 0
def retEN (P : Program) (fn : Func) (k : Nat) (σ : AS) : Option (AV × List ABlk) :=
  match resVs P σ fn.results.toList with
  | some xs =>
    let ids := reachE σ.heap 400 (((List.range k).flatMap (blkRefs σ.heap)) ++ (pack xs).refs) (List.range k)
    let H := normH σ.heap ids
    let v := nzT H (pack xs)
    let exp := reachE H 400 (((List.range k).flatMap (blkRefs H)) ++ v.refs) (List.range k)
    let gs := genE H k exp
    if decide exp.Nodup && gs.length == exp.length && movedOK k exp gs H && oldOK k 0 exp then match seqO (exp.zipWith (expB3 exp gs H) gs) with
      | some B => some (v.ren (expG exp gs H), B)
      | none => none
    else none
  | none => none
theorem retEN_ok {P : Program} {fn : Func} {k : Nat} {σ : AS} {r : AV} {B : List ABlk} (h : retEN P fn k σ = some (r, B)) : RetN P fn k r B σ := by
  unfold retEN at h
  split at h
  · rename_i xs hx
    dsimp only at h
    generalize reachE σ.heap 400 (((List.range k).flatMap (blkRefs σ.heap)) ++ (pack xs).refs) (List.range k) = ids at h
    generalize reachE (normH σ.heap ids) 400 (((List.range k).flatMap (blkRefs (normH σ.heap ids))) ++ (nzT (normH σ.heap ids) (pack xs)).refs) (List.range k) = exp at h
    generalize genE (normH σ.heap ids) k exp = gs at h
    split at h
    · rename_i hc
      simp only [Bool.and_eq_true, decide_eq_true_eq, beq_iff_eq] at hc
      obtain ⟨⟨⟨c1, c2⟩, c3⟩, c4⟩ := hc
      split at h
      · rename_i B' hB
        simp only [Option.some.injEq, Prod.mk.injEq] at h
        obtain ⟨rfl, rfl⟩ := h
        refine ⟨xs, hx, ids, exp, gs, c1, c2, fun i hi => ?_, fun i id he hid => ?_, seqO_some hB, rfl⟩
        · have := List.all_eq_true.1 c3 i (List.mem_range.2 hi)
          simpa [and_assoc] using this
        · have := oldOK_get k exp 0 c4 i id he hid
          omega
      · cases h
    · cases h
  · cases h
def retE (P : Program) (fn : Func) (k : Nat) (σ : AS) : Option (AV × List ABlk) := retEN P fn k σ
theorem retE_ok {P : Program} {fn : Func} {k : Nat} {σ : AS} {r : AV} {B : List ABlk} (h : retE P fn k σ = some (r, B)) : RetN P fn k r B σ := retEN_ok h

/-- The same, slices of plain data frozen first where 'fz' says so. -/
def retE2 (P : Program) (fn : Func) (k : Nat) (fz : Bool) (σ : AS) : Option (AV × List ABlk) :=
  match resVs P σ fn.results.toList with
  | some xs => match (frqT fz (pack xs)).run σ.heap with
    | some out => outE out.H k out.val (reachE out.H 200 (((List.range k).flatMap (blkRefs out.H)) ++ out.val.refs) (List.range k))
    | none => none
  | none => none
theorem retE2_ok {P : Program} {fn : Func} {k : Nat} (fz : Bool) {σ : AS} {r : AV} {B : List ABlk} (h : retE2 P fn k fz σ = some (r, B)) : RetB P fn k r B σ := by
  unfold retE2 at h
  split at h
  · rename_i xs hx
    split at h
    · rename_i out ho
      generalize reachE out.H 200 (((List.range k).flatMap (blkRefs out.H)) ++ out.val.refs) (List.range k) = exp at h
      unfold outE at h
      split at h
      · rename_i hc
        simp only [Bool.and_eq_true] at hc
        split at h
        · rename_i B' hB
          simp only [Option.some.injEq, Prod.mk.injEq] at h
          obtain ⟨rfl, rfl⟩ := h
          exact ⟨xs, hx, fz, out, ho, exp, nodupE_ok hc.1, firstE_ok hc.2, seqO_some hB, rfl⟩
        · cases h
      · cases h
    · cases h
  · cases h

def callE (P : Program) (S : FuncId → SpecFn) (f : FuncId) : Option Spec :=
  match P.funcs[f]? with
  | some fn => match fn.body with
    | some _ => some ⟨3, S f⟩
    | none => none
  | none => none
def runB (P : Program) (base : NL SpecFn) (L : Nat) : Nat → FuncId → SpecFn
  | 0, _, _, _ => none
  | n + 1, f, args, B => match lk base f with
    | some S => S args B
    | none => match P.funcs[f]? with
    | some fn => match fn.body with
      | some body => if B.all (fun b => b.gen == 0) then match execC P (callE P (runB P base L n)) L body (init2 fn args B) with
        | some (.normal, σ) => retE P fn B.length σ
        | some (.ret, σ) => retE P fn B.length σ
        | _ => none
        else none
      | none => none
    | none => none

theorem runB_ok {P : Program} {base : NL SpecFn} (hbase : ∀ f S, lk base f = some S → FnC P f S) (hm : P.follows .mixedOrders = true) (hN : P.funcs.all (fun fn => !(fn.name == "runtime.NumGoroutine")) = true) {L : Nat} : ∀ (n : Nat) (f : FuncId) {fn : Func} {body : Code}, P.funcs[f]? = some fn → fn.body = some body → FnC P f (runB P base L n f) := by
  have hname : ∀ (f : FuncId) (fn : Func), P.funcs[f]? = some fn → (fn.name == "runtime.NumGoroutine") = false := by
    intro f fn hf
    have := Array.all_eq_true.1 hN f (Array.getElem?_eq_some_iff.1 hf).1
    rw [(Array.getElem?_eq_some_iff.1 hf).2] at this
    simpa using this
  intro n
  induction n with
  | zero => exact fun f fn body hf hb => ⟨⟨fn, hf, hname f fn hf, by simp [hb]⟩, fun args B r B' hS => by simp [runB] at hS⟩
  | succ n ih =>
    intro f fn body hf hb
    have hspecs : ∀ g s, callE P (runB P base L n) g = some s → FnC P g s.fn := by
      intro g s hs
      unfold callE at hs
      split at hs
      · rename_i fg hfg
        split at hs
        · rename_i bg hbg
          simp only [Option.some.injEq] at hs
          subst hs
          exact ih g hfg hbg
        · cases hs
      · cases hs
    cases hlk : lk base f with
    | some S =>
      refine ⟨⟨fn, hf, hname f fn hf, by simp [hb]⟩, fun args B r B' hS E vs hH hr hx => ?_⟩
      simp only [runB, hlk] at hS
      exact (hbase f S hlk).calls args B r B' hS E vs hH hr hx
    | none =>
    refine ⟨⟨fn, hf, hname f fn hf, by simp [hb]⟩, fun args B r B' hS E vs hH hr hx => ?_⟩
    simp only [runB, hlk, hf, hb] at hS
    split at hS
    · rename_i hg
      have hg' : ∀ b ∈ B, b.gen = 0 := fun b hbm => by simpa using List.all_eq_true.1 hg b hbm
      have hex : ∃ e σ, execC P (callE P (runB P base L n)) L body (init2 fn args B) = some (e, σ) ∧ (e = .normal ∨ e = .ret) ∧ retE P fn B.length σ = some (r, B') := by
        split at hS
        · rename_i σ he; exact ⟨_, σ, he, .inl rfl, hS⟩
        · rename_i σ he; exact ⟨_, σ, he, .inr rfl, hS⟩
        · cases hS
      obtain ⟨e, σ, he, hen, hret⟩ := hex
      have hsz : vs.size = args.length := by have := hx.length; simpa using this
      have hsr : SR (init2 fn args B) { tmps := vs ++ Array.replicate (fn.ntmps - vs.size) undef, defers := [] } E := by
        refine ⟨by rw [hH]; funext i; simp [init2, lk_num], hr, rfl, by simp [init2, hsz], fun t x ht => ?_⟩
        simp only [init2, lk_num, Nat.zero_le, if_true, Nat.sub_zero] at ht
        obtain ⟨v, hv, hxv⟩ := hx.get ht
        refine ⟨v, ?_, hxv⟩
        have hlt : t < vs.size := by rw [hsz]; exact (List.getElem?_eq_some_iff.1 ht).1
        rw [Array.getElem?_append_left hlt]
        simpa using hv
      have hawp := execC_ok (Q := fun e σ => (e = .normal ∨ e = .ret) ∧ RetN P fn B.length r B' σ) body he ⟨hen, retE_ok hret⟩
      refine calls_of_wp hf hb (wp_mono (awp_sound hm hspecs body hsr hawp) fun e a' w' hp => ?_)
      obtain ⟨σ', E1, rfl, h1, h2, he, xs, hxs, ids, exp, gs, q1, q1b, q2, q2b, q3, rfl⟩ := hp
      obtain ⟨v, g1, g2⟩ := resVs_run h1 hxs
      obtain ⟨E2, k1, k2, k3, k4⟩ := normH_env ids h1.heap h1.hr
      have k5 : Rep E2 (nzT (normH σ'.heap ids) (pack xs)) v := nzT_rep k2 k3 (Rep.mono k4 _ _ g2)
      obtain ⟨E3, m1, m2, m3, m4, m5⟩ := export_envM hH hg' k2 k3 (h2.trans k4) q1 q1b q2 q2b q3
      have hfinal : bodyPost P fn (fun e w' => ∃ v E', e = .returned v ∧ E'.w = w' ∧ E'.H = (fun i => B'[i]?) ∧ HR E' ∧ Step E E' ∧ Rep E' ((nzT (normH σ'.heap ids) (pack xs)).ren (expG exp gs (normH σ'.heap ids))) v) .ret a' E1.w :=
        ⟨h1.defers, v, g1, v, E3, rfl, m1.trans k1, m2, m3, m4, ren_rep m5 _ _ k5⟩
      rcases he with rfl | rfl
      · exact hfinal
      · exact hfinal
    · cases hS
def runFn (P : Program) (L n : Nat) (f : FuncId) : SpecFn := runB P [] L n f
theorem runFn_ok {P : Program} (hm : P.follows .mixedOrders = true) (hN : P.funcs.all (fun fn => !(fn.name == "runtime.NumGoroutine")) = true) {L : Nat} (n : Nat) (f : FuncId) {fn : Func} {body : Code} (hf : P.funcs[f]? = some fn) (hb : fn.body = some body) : FnC P f (runFn P L n f) :=
  runB_ok (fun _ _ h => by simp [lk] at h) hm hN n f hf hb
end Go.Abs
