/- Running a program in the abstract frame: what a closed call answers, by computation. Conditions: none. -/
import Derived.Test.YtffoafkdoclfcaaAbsT
namespace Go.Abs
open Go

def loopE (B : AS → Option (Exit × AS)) : Nat → AS → Option (Exit × AS)
  | 0, _ => none
  | k + 1, σ => match B σ with
    | some (.normal, σ') => loopE B k σ'
    | r => r
/-- A place for blocks behind all that are there: each region's new blocks get names of their own. -/
def freshK (H : NL ABlk) : Nat := H.foldl (fun m p => max m p.1) 0 / 16 + 1
def execC (P : Program) (specs : FuncId → Option Spec) (L : Nat) : Code → AS → Option (Exit × AS)
  | .skip, σ => some (.normal, σ)
  | .label _, σ => some (.normal, σ)
  | .region _ ops draw, σ => match runR P specs (freshK σ.heap) ops draw σ with
    | some (σ', _) => some (.normal, σ')
    | none => none
  | .seq x y, σ => match execC P specs L x σ with
    | some (.normal, σ') => execC P specs L y σ'
    | r => r
  | .cond c x y, σ => match σ.ev c with
    | .bool true => execC P specs L x σ
    | .bool false => execC P specs L y σ
    | _ => none
  | .block id x, σ => match execC P specs L x σ with
    | some (.exit i, σ') => if i = id then some (.normal, σ') else some (.exit i, σ')
    | r => r
  | .loop x, σ => loopE (execC P specs L x) L σ
  | .exit id, σ => some (.exit id, σ)
  | .ret, σ => some (.ret, σ)
  | _, _ => none

theorem execC_ok {P : Program} {specs : FuncId → Option Spec} {L : Nat} : ∀ (c : Code) {Q : Exit → AS → Prop} {σ : AS} {e : Exit} {σ' : AS}, execC P specs L c σ = some (e, σ') → Q e σ' → awp P specs c Q σ
  | .skip, Q, σ, e, σ', h, hq => by simp only [execC, Option.some.injEq, Prod.mk.injEq] at h; obtain ⟨rfl, rfl⟩ := h; exact hq
  | .label _, Q, σ, e, σ', h, hq => by simp only [execC, Option.some.injEq, Prod.mk.injEq] at h; obtain ⟨rfl, rfl⟩ := h; exact hq
  | .region _ ops draw, Q, σ, e, σ', h, hq => by
    simp only [execC] at h
    simp only [awp]
    split at h
    · rename_i σ1 A h1
      simp only [Option.some.injEq, Prod.mk.injEq] at h
      obtain ⟨rfl, rfl⟩ := h
      exact ⟨_, by rw [h1]; exact fun _ => hq⟩
    · cases h
  | .seq x y, Q, σ, e, σ', h, hq => by
    simp only [execC] at h
    simp only [awp]
    split at h
    · rename_i σ1 h1
      exact execC_ok x h1 (execC_ok y h hq)
    · rename_i r hr
      refine execC_ok x h ?_
      cases e with
      | normal => exact absurd h (hr σ')
      | _ => exact hq
  | .cond c x y, Q, σ, e, σ', h, hq => by
    simp only [execC] at h
    simp only [awp]
    split at h
    · rename_i hc
      rw [hc]
      exact ⟨fun _ => execC_ok x h hq, fun hb => by cases hb⟩
    · rename_i hc
      rw [hc]
      exact ⟨fun hb => (by cases hb), fun _ => execC_ok y h hq⟩
    · cases h
  | .block id x, Q, σ, e, σ', h, hq => by
    simp only [execC] at h
    simp only [awp]
    split at h
    · rename_i i σ1 h1
      refine execC_ok x h1 ?_
      split at h
      · rename_i hi
        simp only [Option.some.injEq, Prod.mk.injEq] at h
        obtain ⟨rfl, rfl⟩ := h
        simp only [if_pos hi]
        exact hq
      · rename_i hi
        simp only [Option.some.injEq, Prod.mk.injEq] at h
        obtain ⟨rfl, rfl⟩ := h
        simp only [if_neg hi]
        exact hq
    · rename_i r hr
      refine execC_ok x h ?_
      cases e with
      | exit i => exact absurd h (hr i σ')
      | _ => exact hq
  | .loop x, Q, σ, e, σ', h, hq => by
    simp only [execC] at h
    simp only [awp]
    have key : ∀ (n : Nat) (σ : AS), loopE (execC P specs L x) n σ = some (e, σ') → loopN (awp P specs x) Q n σ := by
      intro n
      induction n with
      | zero => intro σ h; cases h
      | succ n ih =>
        intro σ h
        simp only [loopE] at h
        simp only [loopN]
        split at h
        · rename_i σ1 h1
          exact execC_ok x h1 (ih σ1 h)
        · rename_i r hr
          refine execC_ok x h ?_
          cases e with
          | normal => exact absurd h (hr σ')
          | _ => exact hq
    exact ⟨L, key L σ h⟩
  | .exit id, Q, σ, e, σ', h, hq => by simp only [execC, Option.some.injEq, Prod.mk.injEq] at h; obtain ⟨rfl, rfl⟩ := h; exact hq
  | .ret, Q, σ, e, σ', h, hq => by simp only [execC, Option.some.injEq, Prod.mk.injEq] at h; obtain ⟨rfl, rfl⟩ := h; exact hq
  | .rangeFunc .., _, _, _, _, h, _ => by simp [execC] at h
  | .scope _, _, _, _, _, h, _ => by simp [execC] at h
  | .goto _, _, _, _, _, h, _ => by simp [execC] at h
  | .refuse _, _, _, _, _, h, _ => by simp [execC] at h

/-! ### What a call leaves -/
def seqO {α : Type} : List (Option α) → Option (List α)
  | [] => some []
  | some x :: r => match seqO r with
    | some l => some (x :: l)
    | none => none
  | none :: _ => none
theorem seqO_some {α : Type} : ∀ {l : List (Option α)} {B : List α}, seqO l = some B → l = B.map some
  | [], B, h => by simp only [seqO, Option.some.injEq] at h; subst h; rfl
  | some x :: r, B, h => by
    simp only [seqO] at h
    split at h
    · rename_i l hl
      simp only [Option.some.injEq] at h
      subst h
      rw [seqO_some hl]
      rfl
    · cases h
  | none :: _, B, h => by simp [seqO] at h
def reachE (H : NL ABlk) : Nat → List Nat → List Nat → List Nat
  | _, [], acc => acc
  | 0, _, acc => acc
  | n + 1, i :: r, acc => if acc.contains i then reachE H n r acc else match lk H i with
    | some b => if b.kind = 0 then reachE H n r acc else reachE H n (r ++ refsB b) (acc ++ [i])
    | none => reachE H n r acc
def blkRefs (H : NL ABlk) (i : Nat) : List Nat := match lk H i with
  | some b => refsB b
  | none => []
def nodupE : List Nat → Bool
  | [] => true
  | x :: r => !r.contains x && nodupE r
theorem nodupE_ok : ∀ {l : List Nat}, nodupE l = true → l.Nodup
  | [], _ => List.nodup_nil
  | x :: r, h => by
    simp only [nodupE, Bool.and_eq_true, Bool.not_eq_true', List.contains_eq_mem, decide_eq_false_iff_not] at h
    exact List.nodup_cons.2 ⟨h.1, nodupE_ok h.2⟩
def firstE (H : NL ABlk) (exp : List Nat) : Nat → Bool
  | 0 => true
  | k + 1 => (match exp[k]?, lk H k with
    | some i, some b => i == k && b.gen == 0
    | _, _ => false) && firstE H exp k
theorem firstE_ok {H : NL ABlk} {exp : List Nat} : ∀ {k : Nat}, firstE H exp k = true → ∀ i, i < k → exp[i]? = some i ∧ (lk H i).map (·.gen) = some 0
  | 0, _, i, hi => by omega
  | k + 1, h, i, hi => by
    simp only [firstE, Bool.and_eq_true] at h
    by_cases e : i = k
    · subst e
      have h1 := h.1
      split at h1
      · rename_i j b h2 h3
        simp only [Bool.and_eq_true, beq_iff_eq] at h1
        rw [h2, h3, h1.1]
        simp [h1.2]
      · cases h1
    · exact firstE_ok h.2 i (by omega)
def outE (H : NL ABlk) (k : Nat) (v : AV) (exp : List Nat) : Option (AV × List ABlk) :=
  if nodupE exp && firstE H exp k then match seqO (exp.map (expB2 exp H)) with
    | some B => some (v.ren (expF exp H), B)
    | none => none
  else none
def retE (P : Program) (fn : Func) (k : Nat) (σ : AS) : Option (AV × List ABlk) :=
  match resVs P σ fn.results.toList with
  | some xs => outE σ.heap k (pack xs) (reachE σ.heap 200 (((List.range k).flatMap (blkRefs σ.heap)) ++ (pack xs).refs) (List.range k))
  | none => none
theorem retE_ok {P : Program} {fn : Func} {k : Nat} {σ : AS} {r : AV} {B : List ABlk} (h : retE P fn k σ = some (r, B)) : RetB P fn k r B σ := by
  unfold retE at h
  split at h
  · rename_i xs hx
    generalize reachE σ.heap 200 (((List.range k).flatMap (blkRefs σ.heap)) ++ (pack xs).refs) (List.range k) = exp at h
    unfold outE at h
    split at h
    · rename_i hc
      simp only [Bool.and_eq_true] at hc
      split at h
      · rename_i B' hB
        simp only [Option.some.injEq, Prod.mk.injEq] at h
        obtain ⟨rfl, rfl⟩ := h
        exact ⟨xs, hx, false, ⟨pack xs, σ.heap, [], [], True⟩, rfl, exp, nodupE_ok hc.1, firstE_ok hc.2, seqO_some hB, rfl⟩
      · cases h
    · cases h
  · cases h

/-- The same, slices of plain data frozen first where 'fz' says so. -/
def retE2 (P : Program) (fn : Func) (k : Nat) (fz : Bool) (σ : AS) : Option (AV × List ABlk) :=
  match resVs P σ fn.results.toList with
  | some xs => match (frqT fz (pack xs)).run σ.heap with
    | some out => outE out.H k out.val (reachE out.H 200 (((List.range k).flatMap (blkRefs out.H)) ++ out.val.refs) (List.range k))
    | none => none
  | none => none
theorem retE2_ok {P : Program} {fn : Func} {k : Nat} (fz : Bool) {σ : AS} {r : AV} {B : List ABlk} (h : retE2 P fn k fz σ = some (r, B)) : RetB P fn k r B σ := by
  unfold retE2 at h
  split at h
  · rename_i xs hx
    split at h
    · rename_i out ho
      generalize reachE out.H 200 (((List.range k).flatMap (blkRefs out.H)) ++ out.val.refs) (List.range k) = exp at h
      unfold outE at h
      split at h
      · rename_i hc
        simp only [Bool.and_eq_true] at hc
        split at h
        · rename_i B' hB
          simp only [Option.some.injEq, Prod.mk.injEq] at h
          obtain ⟨rfl, rfl⟩ := h
          exact ⟨xs, hx, fz, out, ho, exp, nodupE_ok hc.1, firstE_ok hc.2, seqO_some hB, rfl⟩
        · cases h
      · cases h
    · cases h
  · cases h

def callE (P : Program) (S : FuncId → SpecFn) (f : FuncId) : Option Spec :=
  match P.funcs[f]? with
  | some fn => match fn.body with
    | some _ => some ⟨3, S f⟩
    | none => none
  | none => none
def runFn (P : Program) (L : Nat) : Nat → FuncId → SpecFn
  | 0, _, _, _ => none
  | n + 1, f, args, B => match P.funcs[f]? with
    | some fn => match fn.body with
      | some body => if B.all (fun b => b.gen == 0) then match execC P (callE P (runFn P L n)) L body (init2 fn args B) with
        | some (.normal, σ) => retE P fn B.length σ
        | some (.ret, σ) => retE P fn B.length σ
        | _ => none
        else none
      | none => none
    | none => none

theorem runFn_ok {P : Program} (hm : P.follows .mixedOrders = true) (hN : P.funcs.all (fun fn => !(fn.name == "runtime.NumGoroutine")) = true) {L : Nat} : ∀ (n : Nat) (f : FuncId) {fn : Func} {body : Code}, P.funcs[f]? = some fn → fn.body = some body → FnC P f (runFn P L n f) := by
  have hname : ∀ (f : FuncId) (fn : Func), P.funcs[f]? = some fn → (fn.name == "runtime.NumGoroutine") = false := by
    intro f fn hf
    have := Array.all_eq_true.1 hN f (Array.getElem?_eq_some_iff.1 hf).1
    rw [(Array.getElem?_eq_some_iff.1 hf).2] at this
    simpa using this
  intro n
  induction n with
  | zero => exact fun f fn body hf hb => ⟨⟨fn, hf, hname f fn hf, by simp [hb]⟩, fun args B r B' hS => by simp [runFn] at hS⟩
  | succ n ih =>
    intro f fn body hf hb
    have hspecs : ∀ g s, callE P (runFn P L n) g = some s → FnC P g s.fn := by
      intro g s hs
      unfold callE at hs
      split at hs
      · rename_i fg hfg
        split at hs
        · rename_i bg hbg
          simp only [Option.some.injEq] at hs
          subst hs
          exact ih g hfg hbg
        · cases hs
      · cases hs
    refine ⟨⟨fn, hf, hname f fn hf, by simp [hb]⟩, fun args B r B' hS E vs hH hr hx => ?_⟩
    simp only [runFn, hf, hb] at hS
    split at hS
    · rename_i hg
      have hg' : ∀ b ∈ B, b.gen = 0 := fun b hbm => by simpa using List.all_eq_true.1 hg b hbm
      have hex : ∃ e σ, execC P (callE P (runFn P L n)) L body (init2 fn args B) = some (e, σ) ∧ (e = .normal ∨ e = .ret) ∧ retE P fn B.length σ = some (r, B') := by
        split at hS
        · rename_i σ he; exact ⟨_, σ, he, .inl rfl, hS⟩
        · rename_i σ he; exact ⟨_, σ, he, .inr rfl, hS⟩
        · cases hS
      obtain ⟨e, σ, he, hen, hret⟩ := hex
      have hsz : vs.size = args.length := by have := hx.length; simpa using this
      have hsr : SR (init2 fn args B) { tmps := vs ++ Array.replicate (fn.ntmps - vs.size) undef, defers := [] } E := by
        refine ⟨by rw [hH]; funext i; simp [init2, lk_num], hr, rfl, by simp [init2, hsz], fun t x ht => ?_⟩
        simp only [init2, lk_num, Nat.zero_le, if_true, Nat.sub_zero] at ht
        obtain ⟨v, hv, hxv⟩ := hx.get ht
        refine ⟨v, ?_, hxv⟩
        have hlt : t < vs.size := by rw [hsz]; exact (List.getElem?_eq_some_iff.1 ht).1
        rw [Array.getElem?_append_left hlt]
        simpa using hv
      have hawp := execC_ok (Q := fun e σ => (e = .normal ∨ e = .ret) ∧ RetB P fn B.length r B' σ) body he ⟨hen, retE_ok hret⟩
      refine calls_of_wp hf hb (wp_mono (awp_sound hm hspecs body hsr hawp) fun e a' w' hp => ?_)
      obtain ⟨σ', E1, rfl, h1, h2, he, xs, hxs, fz, out, ho, exp, q1, q2, q3, rfl⟩ := hp
      obtain ⟨v, g1, g2⟩ := resVs_run h1 hxs
      obtain ⟨E2, k1, k2, k3, k4, k5⟩ := frqT_run h1.heap h1.hr g2 ho
      obtain ⟨E3, m1, m2, m3, m4, m5⟩ := export_envB hH hg' k2 k3 (h2.trans k4) q1 q2 q3
      have hfinal : bodyPost P fn (fun e w' => ∃ v E', e = .returned v ∧ E'.w = w' ∧ E'.H = (fun i => B'[i]?) ∧ HR E' ∧ Step E E' ∧ Rep E' (out.val.ren (expF exp out.H)) v) .ret a' E1.w :=
        ⟨h1.defers, v, g1, v, E3, rfl, m1.trans k1, m2, m3, m4, ren_rep m5 _ _ k5⟩
      rcases he with rfl | rfl
      · exact hfinal
      · exact hfinal
    · cases hS
end Go.Abs
