/- Code in the abstract frame, and functions. Conditions: none. -/
import Derived.Test.YtidbfifednannaaAbsL
import Derived.LoopN
import Derived.Scope
namespace Go.Abs
open Go

/-! ### The check of a region that draws -/
def isTmp : Operand → Option Tmp
  | .tmp t => some t
  | _ => none
/-- For each operation the operations that surely come before it. -/
def befs : List Oper → List Nat → List Nat
  | [], acc => acc
  | o :: r, acc => befs r (acc ++ [o.after.toList.foldl (fun s e => if Region.binds .any e then s ||| 2 ^ e.on ||| acc.getD e.on 0 else s) 0])
def edgesOK (ops : List Oper) : Bool := ops.zipIdx.all fun p => p.1.after.toList.all fun e => !Region.binds .any e || decide (e.on < p.2)
def pairsUpTo (n : Nat) : List (Nat × Nat) := (List.range n).flatMap fun j => (List.range j).map fun i => (i, j)
/-- The pairs that the edges leave open; none, if one of them shares a temporary. -/
def openPairs (ops : Array Oper) : Option (List (Nat × Nat)) :=
  let b := befs ops.toList []
  let l := (pairsUpTo ops.size).filter fun p => !(b.getD p.2 0).testBit p.1
  if edgesOK ops.toList && l.all (fun p => match ops[p.1]?, ops[p.2]? with
    | some x, some y => x.apart ops y
    | _, _ => false) then some l else none
def fpOK (x y : FP) : Bool :=
  x.wr.all (fun id => !y.rd.contains id && !y.wr.contains id) && y.wr.all (fun id => !x.rd.contains id)
def runF (P : Program) (specs : FuncId → Option Spec) (kk : Nat) (ops : Array Oper) : List Oper → AS → Option (AS × List FP)
  | [], σ => some (σ, [])
  | o :: r, σ => match stepA P specs kk ops σ o with
    | some (σ', fp) => match runF P specs kk ops r σ' with
      | some (σ'', fs) => some (σ'', fp :: fs)
      | none => none
    | none => none
def asAll : List FP → Prop
  | [] => True
  | f :: r => f.as ∧ asAll r
def nofp : FP := ⟨[], [], True⟩
def runD (P : Program) (specs : FuncId → Option Spec) (kk : Nat) (ops : Array Oper) (σ : AS) : Option (AS × Prop) :=
  match openPairs ops with
  | some l => match runF P specs kk ops ops.toList σ with
    | some (σ', fps) => if l.all (fun p => fpOK (fps.getD p.1 nofp) (fps.getD p.2 nofp)) then some (σ', asAll fps) else none
    | none => none
  | none => none
def runR (P : Program) (specs : FuncId → Option Spec) (kk : Nat) (ops : Array Oper) (draw : Bool) (σ : AS) : Option (AS × Prop) :=
  match draw with
  | true => runD P specs kk ops σ
  | false => runL P specs kk ops ops.toList σ

theorem foldl_bits {acc : List Nat} : ∀ (es : List Edge) (s : Nat) (x : Nat), (es.foldl (fun s e => if Region.binds .any e then s ||| 2 ^ e.on ||| acc.getD e.on 0 else s) s).testBit x = true →
    s.testBit x = true ∨ ∃ e ∈ es, Region.binds .any e = true ∧ (x = e.on ∨ (acc.getD e.on 0).testBit x = true)
  | [], s, x, h => .inl h
  | e :: r, s, x, h => by
    simp only [List.foldl_cons] at h
    rcases foldl_bits r _ x h with h1 | ⟨e', h1, h2, h3⟩
    · split at h1
      · rename_i hb
        simp only [Nat.testBit_or, Bool.or_eq_true, Nat.testBit_two_pow, decide_eq_true_eq] at h1
        rcases h1 with (h1 | h1) | h1
        · exact .inl h1
        · exact .inr ⟨e, by simp, hb, .inl h1.symm⟩
        · exact .inr ⟨e, by simp, hb, .inr h1⟩
      · exact .inl h1
    · exact .inr ⟨e', by simp [h1], h2, h3⟩
theorem befs_spec : ∀ (r : List Oper) (acc : List Nat) (i : Nat), (befs r acc).getD i 0 = acc.getD i 0 ∨ acc.length ≤ i
  | [], acc, i => .inl rfl
  | o :: r, acc, i => by
    simp only [befs]
    rcases befs_spec r (acc ++ [_]) i with h | h
    · by_cases hi : i < acc.length
      · left; rw [h, List.getD_eq_getElem?_getD, List.getD_eq_getElem?_getD, List.getElem?_append_left hi]
      · right; omega
    · right; simp at h; omega
theorem befs_edge : ∀ (r : List Oper) (acc : List Nat) (i x : Nat), ((befs r acc).getD i 0).testBit x = true → (acc.getD i 0).testBit x = true ∨
    ∃ o, acc.length ≤ i ∧ r[i - acc.length]? = some o ∧ ∃ e ∈ o.after.toList, Region.binds .any e = true ∧ (¬ e.on < i ∨ x = e.on ∨ ((befs r acc).getD e.on 0).testBit x = true)
  | [], acc, i, x, h => .inl h
  | o :: r, acc, i, x, h => by
    simp only [befs] at h
    rcases befs_edge r _ i x h with h1 | ⟨o', h2, h3, e, h4, h5, h6⟩
    · rcases Nat.lt_trichotomy i acc.length with hi | hi | hi
      · left
        rwa [List.getD_eq_getElem?_getD, List.getElem?_append_left hi, ← List.getD_eq_getElem?_getD] at h1
      · right
        subst hi
        rw [List.getD_eq_getElem?_getD, List.getElem?_append_right (Nat.le_refl _)] at h1
        simp only [Nat.sub_self, List.getElem?_cons_zero, Option.getD_some] at h1
        rcases foldl_bits _ _ _ h1 with h2 | ⟨e, h2, h3, h4⟩
        · simp at h2
        · refine ⟨o, Nat.le_refl _, by simp, e, h2, h3, ?_⟩
          by_cases hlt : e.on < acc.length
          · right
            rcases h4 with h4 | h4
            · exact .inl h4
            · right
              simp only [befs]
              rcases befs_spec r (acc ++ [o.after.toList.foldl (fun s e => if Region.binds .any e then s ||| 2 ^ e.on ||| acc.getD e.on 0 else s) 0]) e.on with h5 | h5
              · rw [h5, List.getD_eq_getElem?_getD, List.getElem?_append_left hlt, ← List.getD_eq_getElem?_getD]; exact h4
              · simp at h5; omega
          · exact .inl hlt
      · exfalso
        rw [List.getD_eq_getElem?_getD, List.getElem?_eq_none (by simp; omega)] at h1
        simp at h1
    · right
      refine ⟨o', by simp at h2; omega, ?_, e, h4, h5, by simpa only [befs] using h6⟩
      simp only [List.length_append, List.length_singleton] at h2 h3
      rw [show i - acc.length = (i - (acc.length + 1)) + 1 from by omega, List.getElem?_cons_succ]
      exact h3

theorem runF_runs {P : Program} {specs : FuncId → Option Spec} {kk : Nat} {ops : Array Oper} : ∀ (l : List Oper) (k : Nat), (∀ j, l[j]? = ops[k + j]?) → ∀ {σ σ' : AS} {fps : List FP}, runF P specs kk ops l σ = some (σ', fps) →
    fps.length = l.length ∧ ∀ Φ : Nat → FP, (∀ j fp, fps[j]? = some fp → Φ (k + j) = fp) → Runs P specs kk ops Φ (List.range' k l.length) σ σ'
  | [], k, _, σ, σ', fps, h => by
    simp only [runF, Option.some.injEq, Prod.mk.injEq] at h
    obtain ⟨rfl, rfl⟩ := h
    exact ⟨rfl, fun _ _ => Eqv.refl _⟩
  | o :: r, k, hl, σ, σ', fps, h => by
    simp only [runF] at h
    split at h
    · rename_i σ1 fp hs
      split at h
      · rename_i σ2 fs hr
        simp only [Option.some.injEq, Prod.mk.injEq] at h
        obtain ⟨rfl, rfl⟩ := h
        obtain ⟨q1, q2⟩ := runF_runs r (k + 1) (fun j => by have := hl (j + 1); simpa [Nat.add_comm, Nat.add_left_comm, Nat.add_assoc] using this) hr
        refine ⟨by simp [q1], fun Φ hΦ => ?_⟩
        rw [List.length_cons, List.range'_succ]
        have ho : ops[k]? = some o := by have := hl 0; simpa using this.symm
        have h0 : Φ k = fp := by simpa using hΦ 0 fp (by simp)
        refine ⟨o, σ1, ho, by rw [h0]; exact hs, q2 Φ fun j fp' hj => ?_⟩
        have := hΦ (j + 1) fp' (by simpa using hj)
        rw [← this]; congr 1; omega
      · cases h
    · cases h

theorem asAll_get : ∀ {fps : List FP}, asAll fps → ∀ {i : Nat} {f : FP}, fps[i]? = some f → f.as
  | [], _, i, f, h => by simp at h
  | g :: r, ha, i, f, h => by
    simp only [asAll] at ha
    cases i with
    | zero => simp only [List.getElem?_cons_zero, Option.some.injEq] at h; subst h; exact ha.1
    | succ i => exact asAll_get ha.2 (by simpa using h)
theorem asAll_of : ∀ {fps : List FP}, (∀ (i : Nat) (f : FP), fps[i]? = some f → f.as) → asAll fps
  | [], _ => trivial
  | g :: r, h => ⟨h 0 g (by simp), asAll_of fun i f hf => h (i + 1) f (by simpa using hf)⟩

theorem regionD_wp {P : Program} {specs : FuncId → Option Spec} {kk : Nat} (hm : P.follows .mixedOrders = true) (hsp : ∀ f s, specs f = some s → FnC P f s.fn) {ops : Array Oper} {Q : Exit → Act → World → Prop} {id : Nat} {σ σ' : AS} {A : Prop} {a : Act} {E : Env} (h : SR σ a E) (hr : runD P specs kk ops σ = some (σ', A))
    (hq : A → ∀ a' E', SR σ' a' E' → Step E E' → Q .normal a' E'.w) : (Code.region id ops true).wp P Q a E.w := by
  unfold runD at hr
  split at hr
  · rename_i l hl
    split at hr
    · rename_i σ1 fps hF
      split at hr
      · rename_i hall
        simp only [Option.some.injEq, Prod.mk.injEq] at hr
        obtain ⟨rfl, rfl⟩ := hr
        refine wp_region_any hm ?_
        -- the draw itself
        let E1 : Env := ⟨{ E.w with drawn := E.w.drawn + 1 }, E.H, E.φ, E.cs, E.F⟩
        have hs1 : Step E E1 := ⟨Nat.le_refl _, fun _ _ _ => rfl, rfl, fun _ blk hb => ⟨blk, hb, Nat.le_refl _, fun _ _ => ⟨.inl rfl, rfl, rfl, rfl, rfl⟩⟩, fun _ blk hb hk hc => .inl ⟨blk, hb, hk, hc, rfl⟩, ⟨rfl, rfl, rfl, fun _ => rfl⟩⟩
        have hr1 : HR E1 := ⟨fun id b hb => BlkOK.mono hs1 rfl rfl (fun _ _ => rfl) (h.hr.blk id b hb), h.hr.inj, h.hr.nf, h.hr.fb⟩
        have h1 : SR σ a E1 := ⟨h.heap, hr1, h.defers, h.size, fun t x ht => by
          obtain ⟨v, hv, hx⟩ := h.tmps t x ht
          exact ⟨v, hv, Rep.mono hs1 _ _ hx⟩⟩
        simp only [openPairs] at hl
        split at hl
        · rename_i hchk
          simp only [Option.some.injEq] at hl
          subst hl
          simp only [Bool.and_eq_true, List.all_eq_true, List.mem_filter] at hchk
          obtain ⟨hedges, hap⟩ := hchk
          obtain ⟨hlen, hruns⟩ := runF_runs ops.toList 0 (fun j => by simp) hF
          have hedge : ∀ i o, ops[i]? = some o → ∀ j, binds o j → j < i := by
            intro i o ho j ⟨e, he, hb, hj⟩
            have hm : (o, i) ∈ ops.toList.zipIdx := by
              rw [List.mem_zipIdx_iff_getElem?]; simpa using ho
            have := List.all_eq_true.1 hedges (o, i) hm
            have := List.all_eq_true.1 this e he
            simp only [hb, Bool.not_true, Bool.false_or, decide_eq_true_eq] at this
            omega
          have hpair : ∀ x i, x < i → i < ops.size → (x, i) ∈ pairsUpTo ops.size := by
            intro x i hx hi
            simp only [pairsUpTo, List.mem_flatMap, List.mem_range, List.mem_map, Prod.mk.injEq]
            exact ⟨i, hi, x, hx, rfl, rfl⟩
          have hun : unl ops.size (Array.replicate ops.size false) = List.range ops.size := by
            unfold unl
            rw [List.filter_eq_self]
            intro x hx
            have : x < ops.size := by simpa using hx
            simp [Array.getD_eq_getD_getElem?, this]
          refine any_wp (kk := kk) hsp (Φ := fun i => fps.getD i nofp) (σ' := σ1) (B := fun x i => ((befs ops.toList []).getD i 0).testBit x = true) hedge ?_ ?_ ops.size (Array.replicate ops.size false) (E := E1) h1 (by simp) ?_ ?_ ?_ ?_
          · intro i x hb
            rcases befs_edge ops.toList [] i x hb with hb1 | ⟨o, _, ho, e, he, hbi, hx⟩
            · simp at hb1
            · have ho' : ops[i]? = some o := by simpa using ho
              rcases hx with hx | hx
              · exact absurd (hedge i o ho' e.on ⟨e, he, hbi, rfl⟩) hx
              · exact ⟨o, ho', e.on, ⟨e, he, hbi, rfl⟩, hx⟩
          · intro x i hx hi
            by_cases hb : ((befs ops.toList []).getD i 0).testBit x = true
            · exact .inl hb
            · right
              have hmem : (x, i) ∈ pairsUpTo ops.size ∧ (!((befs ops.toList []).getD i 0).testBit x) = true := ⟨hpair x i hx hi, by simpa using hb⟩
              have h2 := hap (x, i) hmem
              have h3 := List.all_eq_true.1 hall (x, i) (by rw [List.mem_filter]; exact hmem)
              simp only [fpOK, Bool.and_eq_true, List.all_eq_true, Bool.not_eq_eq_eq_not, Bool.not_true] at h3
              refine ⟨fun ox oi e1 e2 => ?_, fun id hid => ?_, fun id hid => ?_⟩
              · simp only [e1, e2] at h2
                exact h2
              · have := h3.1 id hid
                simpa using this
              · have := h3.2 id hid
                simpa using this
          · intro i o ho hl j hj
            have hlt : i < ops.size := (Array.getElem?_eq_some_iff.1 ho).1
            simp [Array.getD_eq_getD_getElem?, hlt] at hl
          · rw [hun]; simp
          · rw [hun, List.range_eq_range']
            have := hruns (fun i => fps.getD i nofp) (fun j fp hj => by simp [List.getD_eq_getElem?_getD, hj])
            simpa using this
          · intro hA a' E' g1 g2
            refine hq (asAll_of fun i f hf => ?_) a' E' g1 (hs1.trans g2)
            have hi : i < ops.size := by
              have := (List.getElem?_eq_some_iff.1 hf).1
              rw [hlen] at this; simpa using this
            have := hA i (by rw [hun]; simpa using hi)
            simpa [List.getD_eq_getElem?_getD, hf] using this
        · cases hl
      · cases hr
    · cases hr
  · cases hr

/-! ### Code -/
def loopN (B : (Exit → AS → Prop) → AS → Prop) (Q : Exit → AS → Prop) : Nat → AS → Prop
  | 0, _ => False
  | n + 1, σ => B (fun e σ' => match e with
    | .normal => loopN B Q n σ'
    | e => Q e σ') σ
def awp (P : Program) (specs : FuncId → Option Spec) : Code → (Exit → AS → Prop) → AS → Prop
  | .skip, Q, σ => Q .normal σ
  | .label _, Q, σ => Q .normal σ
  | .region _ ops draw, Q, σ => ∃ kk, match runR P specs kk ops draw σ with
    | some (σ', A) => A → Q .normal σ'
    | none => False
  | .seq x y, Q, σ => awp P specs x (fun e σ' => match e with
    | .normal => awp P specs y Q σ'
    | e => Q e σ') σ
  | .cond c x y, Q, σ => match σ.ev c with
    | .bool b => (b = true → awp P specs x Q σ) ∧ (b = false → awp P specs y Q σ)
    | _ => False
  | .block id x, Q, σ => awp P specs x (fun e σ' => match e with
    | .exit i => if i = id then Q .normal σ' else Q (.exit i) σ'
    | e => Q e σ') σ
  | .loop x, Q, σ => ∃ n, loopN (awp P specs x) Q n σ
  | .exit id, Q, σ => Q (.exit id) σ
  | .ret, Q, σ => Q .ret σ
  | .scope x, Q, σ => awp P specs x (fun e σ' => match e with
    | .goto _ => False
    | e => Q e σ') σ
  | _, _, _ => False

def Post (E : Env) (Q : Exit → AS → Prop) (e : Exit) (a' : Act) (w' : World) : Prop := ∃ σ' E', E'.w = w' ∧ SR σ' a' E' ∧ Step E E' ∧ Q e σ'

theorem awp_sound {P : Program} {specs : FuncId → Option Spec} (hm : P.follows .mixedOrders = true) (hsp : ∀ f s, specs f = some s → FnC P f s.fn) : ∀ (c : Code) {Q : Exit → AS → Prop} {σ : AS} {a : Act} {E : Env}, SR σ a E → awp P specs c Q σ → c.wp P (Post E Q) a E.w
  | .skip, Q, σ, a, E, h, hw => wp_skip ⟨σ, E, rfl, h, Step.refl E, hw⟩
  | .label _, Q, σ, a, E, h, hw => wp_label ⟨σ, E, rfl, h, Step.refl E, hw⟩
  | .region id ops draw, Q, σ, a, E, h, hw => by
    simp only [awp] at hw
    obtain ⟨kk, hw⟩ := hw
    split at hw
    · rename_i σ' A hr
      cases draw with
      | true => exact regionD_wp hm hsp h hr fun hA a' E' h1 h2 => ⟨σ', E', rfl, h1, h2, hw hA⟩
      | false => exact region_wp hsp h hr fun hA a' E' h1 h2 => ⟨σ', E', rfl, h1, h2, hw hA⟩
    · exact hw.elim
  | .seq x y, Q, σ, a, E, h, hw => by
    simp only [awp] at hw
    refine wp_seq (wp_mono (awp_sound hm hsp x h hw) fun e a' w' hp => ?_)
    obtain ⟨σ', E', rfl, h1, h2, h3⟩ := hp
    cases e with
    | normal =>
      refine wp_mono (awp_sound hm hsp y h1 h3) fun e a'' w'' hp => ?_
      obtain ⟨σ'', E'', rfl, g1, g2, g3⟩ := hp
      exact ⟨σ'', E'', rfl, g1, h2.trans g2, g3⟩
    | _ => exact ⟨σ', E', rfl, h1, h2, h3⟩
  | .cond c x y, Q, σ, a, E, h, hw => by
    simp only [awp] at hw
    have hc := h.ev c
    split at hw
    · rename_i b hb
      rw [hb] at hc
      simp only [Rep] at hc
      exact wp_cond_split hc (fun ht => awp_sound hm hsp x h (hw.1 ht)) (fun hf => awp_sound hm hsp y h (hw.2 hf))
    · exact hw.elim
  | .block id x, Q, σ, a, E, h, hw => by
    simp only [awp] at hw
    refine wp_block (wp_mono (awp_sound hm hsp x h hw) fun e a' w' hp => ?_)
    obtain ⟨σ', E', rfl, h1, h2, h3⟩ := hp
    cases e with
    | exit i =>
      simp only [Exit.inBlock]
      simp only at h3
      split
      · rename_i e; rw [if_pos e] at h3; exact ⟨σ', E', rfl, h1, h2, h3⟩
      · rename_i e; rw [if_neg e] at h3; exact ⟨σ', E', rfl, h1, h2, h3⟩
    | _ => exact ⟨σ', E', rfl, h1, h2, h3⟩
  | .loop x, Q, σ, a, E, h, hw => by
    simp only [awp] at hw
    obtain ⟨n, hn⟩ := hw
    refine wp_loop_rounds n ?_
    have key : ∀ (n : Nat) {σ : AS} {a : Act} {E1 : Env}, Step E E1 → SR σ a E1 → loopN (awp P specs x) Q n σ → Code.rounds P x (Post E Q) n a E1.w := by
      intro n
      induction n with
      | zero => intro σ a E1 _ _ hl; exact hl.elim
      | succ n ih =>
        intro σ a E1 hs h1 hl
        simp only [loopN] at hl
        rw [rounds_succ]
        refine wp_mono (awp_sound hm hsp x h1 hl) fun e a'' w'' hp => ?_
        obtain ⟨σ2, E2, rfl, k1, k2, k3⟩ := hp
        cases e with
        | normal => exact ih (hs.trans k2) k1 k3
        | _ => exact ⟨σ2, E2, rfl, k1, hs.trans k2, k3⟩
    exact key n (Step.refl E) h hn
  | .exit id, Q, σ, a, E, h, hw => wp_exit ⟨σ, E, rfl, h, Step.refl E, hw⟩
  | .ret, Q, σ, a, E, h, hw => wp_ret ⟨σ, E, rfl, h, Step.refl E, hw⟩
  | .rangeFunc .., _, _, _, _, _, hw => hw.elim
  | .scope x, Q, σ, a, E, h, hw => by
    simp only [awp] at hw
    refine wp_scope_straight (wp_mono (awp_sound hm hsp x h hw) fun e a' w' hp => ?_)
    obtain ⟨σ', E', rfl, h1, h2, h3⟩ := hp
    cases e with
    | goto l => exact h3.elim
    | _ => exact ⟨σ', E', rfl, h1, h2, h3⟩
  | .goto _, _, _, _, _, _, hw => hw.elim
  | .refuse _, _, _, _, _, _, hw => hw.elim
end Go.Abs
