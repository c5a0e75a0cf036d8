/- One operation in the abstract frame, and what it may look at. Conditions: none. -/
import Derived.Test.YtidbfifednannaaAbsS
namespace Go.Abs
open Go

/-- An abstract frame with its store; 'n': how many slots. -/
structure AS where
  n : Nat
  tmps : NL AV
  heap : NL ABlk

def AS.ev (σ : AS) : Operand → AV
  | .tmp t => (lk σ.tmps t).getD .any
  | .const v => ofValue v
  | .func f => .fn (.func f) [] []
  | .global _ => .any

structure SR (σ : AS) (a : Act) (E : Env) : Prop where
  heap : E.H = lk σ.heap
  hr : HR E
  defers : a.defers = []
  size : a.tmps.size = σ.n
  tmps : ∀ t x, lk σ.tmps t = some x → ∃ v, a.tmps[t]? = some v ∧ Rep E x v

theorem SR.ev {σ : AS} {a : Act} {E : Env} (h : SR σ a E) (x : Operand) : Rep E (σ.ev x) (a.eval x) := by
  cases x with
  | tmp t =>
    simp only [AS.ev, Act.eval]
    cases hl : lk σ.tmps t with
    | none => trivial
    | some x =>
      obtain ⟨v, hv, hx⟩ := h.tmps t x hl
      simpa [Array.getD_eq_getD_getElem?, hv] using hx
  | const v => exact (ofValue_rep v).rep
  | global g => trivial
  | func f =>
    simp only [AS.ev, Act.eval, Rep]
    exact ⟨#[], #[], rfl, by simp [RepL], by simp [RepL]⟩

/-- All operations, calls among them. -/
def opC (P : Program) (specs : FuncId → Option Spec) (ρ : Operand → AV) (dst : Nat) (op : Op) : AP AV :=
  match op with
  | .call c => match c.callee with
    | .value fx => match ρ fx with
      | .fn (.func f) first caps => match specs f with
        | some _ => callX specs dst f (first ++ c.args.toList.map ρ ++ caps)
        | none => extA P f (first ++ c.args.toList.map ρ ++ caps)
      | _ => .fail
    | .builtin b => builtinA P dst b c.argTypes.toList (c.args.toList.map ρ)
    | _ => .fail
  | op => opA P ρ dst op

structure FP where
  rd : List Nat
  wr : List Nat
  as : Prop

def putA (σ : AS) (dst : Option Nat) (x : AV) : Option (NL AV) :=
  match dst with
  | none => some σ.tmps
  | some d => if d < σ.n then some ((d, x) :: σ.tmps) else none

def execA (P : Program) (specs : FuncId → Option Spec) (kk : Nat) (σ : AS) (o : Oper) : Option (AS × FP) :=
  match (opC P specs σ.ev (o.dst.getD 0 + kk) o.op).run σ.heap with
  | some out => match putA σ o.dst out.val with
    | some ts => some ({ σ with tmps := ts, heap := out.H }, ⟨out.rd, out.wr, out.as⟩)
    | none => none
  | none => none
def skipA (σ : AS) (o : Oper) : Option (AS × FP) :=
  match putA σ o.dst (.tup []) with
  | some ts => some ({ σ with tmps := ts }, ⟨[], [], True⟩)
  | none => none
def gdst (ops : Array Oper) (j : Nat) : Option Nat := (ops[j]?).bind (·.dst)
def stepA (P : Program) (specs : FuncId → Option Spec) (kk : Nat) (ops : Array Oper) (σ : AS) (o : Oper) : Option (AS × FP) :=
  match o.guard with
  | none => execA P specs kk σ o
  | some (j, want) => match gdst ops j with
    | some d => match lk σ.tmps d with
      | some (.bool b) => if b = want then execA P specs kk σ o else skipA σ o
      | some (.tup _) => skipA σ o
      | _ => none
    | none => none

theorem SR.put {σ : AS} {a : Act} {E E' : Env} {H : NL ABlk} (h : SR σ a E) (s : Step E E') (hH : E'.H = lk H) (hr : HR E') {dst : Option Nat} {x : AV} {v : Value} {ts : NL AV} (hp : putA σ dst x = some ts) (hx : Rep E' x v) :
    SR { σ with tmps := ts, heap := H } (a.put dst v) E' := by
  cases dst with
  | none =>
    simp only [putA, Option.some.injEq] at hp
    subst hp
    exact ⟨hH, hr, h.defers, h.size, fun t x ht => by
      obtain ⟨v, hv, hxv⟩ := h.tmps t x ht
      exact ⟨v, hv, Rep.mono s _ _ hxv⟩⟩
  | some d =>
    simp only [putA] at hp
    split at hp
    · rename_i hd
      simp only [Option.some.injEq] at hp
      subst hp
      refine ⟨hH, hr, h.defers, by simp [Act.put, h.size], fun t y ht => ?_⟩
      simp only [lk] at ht
      split at ht
      · rename_i e
        subst e
        simp only [Option.some.injEq] at ht
        subst ht
        exact ⟨v, by simp [Act.put, h.size, hd], hx⟩
      · rename_i e
        obtain ⟨u, hu, hyu⟩ := h.tmps t y ht
        exact ⟨u, by simp [Act.put, e, hu], Rep.mono s _ _ hyu⟩
    · cases hp

theorem opC_wp {P : Program} {specs : FuncId → Option Spec} (hsp : ∀ f s, specs f = some s → FnC P f s.fn) {σ : AS} {a : Act} {E : Env} (h : SR σ a E) {o : Oper} {dst : Nat} {out : Out AV} (ho : (opC P specs σ.ev dst o.op).run σ.heap = some out)
    {next : Act → World → Prop} {Q : Exit → Act → World → Prop} (hn : out.as → ∀ v E', E'.H = lk out.H → HR E' → Step E E' → Rep E' out.val v → next (a.put o.dst v) E'.w) : o.wp P a E.w next Q := by
  have plain : (opA P σ.ev dst o.op).run σ.heap = some out → o.wp P a E.w next Q := fun ho => by
    obtain ⟨v, E', n, h1, h2, h3, h4, h5, h6, h7⟩ := op_snd h.heap h.hr (ρA := σ.ev) (ρ := a.eval) (o := o) (dst := dst) h.ev out ho
    unfold Oper.wp
    rw [h1]
    rcases h2 with rfl | ⟨rfl, rfl⟩
    · exact hn h7 v E' h3 h4 h5 h6
    · exact hn h7 undef E' h3 h4 h5 h6
  obtain ⟨d, op, type, pos, after, guard⟩ := o
  cases op with
  | call c =>
    obtain ⟨callee, args, ts⟩ := c
    cases callee with
    | value fx =>
      simp only [opC] at ho
      have hfx := h.ev fx
      split at ho
      · rename_i f first caps e
        rw [e] at hfx
        simp only [Rep] at hfx
        obtain ⟨fs, cs, hv, h1, h2⟩ := hfx
        have hargs : RepL E (args.toList.map σ.ev) (args.map a.eval).toList := RepL.of_get (by simp) fun i x hi => by
          simp only [List.getElem?_map, Option.map_eq_some_iff] at hi
          obtain ⟨p, hp, rfl⟩ := hi
          exact ⟨a.eval p, by rw [Array.toList_map, List.getElem?_map, hp]; rfl, h.ev p⟩
        have happ : ∀ {xs ys : List AV} {us vs : List Value}, RepL E xs us → RepL E ys vs → RepL E (xs ++ ys) (us ++ vs) := fun {xs ys us vs} h1 h2 => by
          have l1 := h1.length
          refine RepL.of_get (by simp [l1, h2.length]) fun i x hi => ?_
          rw [List.getElem?_append] at hi ⊢
          rw [l1]
          split at hi
          · rename_i q; rw [if_pos q]; exact h1.get hi
          · rename_i q; rw [if_neg q]; exact h2.get hi
        have hall : RepL E (first ++ args.toList.map σ.ev ++ caps) (fs ++ args.map a.eval ++ cs).toList := by
          simp only [Array.toList_append]
          exact happ (happ h1 hargs) h2
        cases hs : specs f with
        | none =>
          simp only [hs] at ho
          obtain ⟨v, r1, r2, r3, r4⟩ := ext_snd h.heap h.hr hall ho
          have hrun : (execOp a.eval { dst := d, op := .call { callee := .value fx, args, argTypes := ts }, type, pos, after, guard }).run P E.w = .ok (.value v) E.w := by
            rw [Array.append_assoc] at r1
            simp [execOp, resolve, Deferred.ofValue, hv, invoke, r1]
          unfold Oper.wp
          rw [hrun]
          exact hn r4 v E r2 h.hr (Step.refl E) r3
        | some s =>
        simp only [hs] at ho
        have hw := callX_w hsp h.heap h.hr (dst := dst) (f := f) hall out ho
        obtain ⟨fn, g1, g2, g3⟩ := (hsp f s hs).fn
        have hrun : (execOp a.eval { dst := d, op := .call { callee := .value fx, args, argTypes := ts }, type, pos, after, guard }).run P E.w = .ok (.enter f (fs ++ args.map a.eval ++ cs)) E.w := by
          have g2' : ¬ fn.name = "runtime.NumGoroutine" := by simpa using g2
          have g3' : ¬ fn.body = none := by intro e; simp [e] at g3
          simp [execOp, resolve, Deferred.ofValue, hv, invoke, callFunc, g1, g2', g3']
        unfold Oper.wp
        rw [hrun]
        show Calls P f _ E.w _
        refine Calls.mono hw fun e w' => ?_
        rintro ⟨v, rfl, has, E', rfl, q1, q2, q3, q4⟩
        exact hn has v E' q1 q2 q3 q4
      · simp [AP.run] at ho
    | builtin b => exact plain ho
    | invoke r m => simp [opC, AP.run] at ho
  | _ => exact plain ho

theorem step_wp {P : Program} {specs : FuncId → Option Spec} {kk : Nat} (hsp : ∀ f s, specs f = some s → FnC P f s.fn) {ops : Array Oper} {σ σ' : AS} {a : Act} {E : Env} (h : SR σ a E) {o : Oper} {fp : FP} (hs : stepA P specs kk ops σ o = some (σ', fp))
    {next : Act → World → Prop} {Q : Exit → Act → World → Prop} (hn : fp.as → ∀ a' E', SR σ' a' E' → Step E E' → next a' E'.w) :
    if Region.wanted o (yielded ops a.tmps) then o.wp P a E.w next Q ∨ (o.asks P a E.w ∧ LetsOut Q) else next (a.put o.dst undef) E.w := by
  have exec : execA P specs kk σ o = some (σ', fp) → o.wp P a E.w next Q := fun he => by
    unfold execA at he
    split at he
    · rename_i out ho
      split at he
      · rename_i ts hts
        simp only [Option.some.injEq, Prod.mk.injEq] at he
        obtain ⟨rfl, rfl⟩ := he
        exact opC_wp hsp h ho fun has v E' h1 h2 h3 h4 => hn has _ E' (h.put h3 h1 h2 hts h4) h3
      · cases he
    · cases he
  have skip : skipA σ o = some (σ', fp) → next (a.put o.dst undef) E.w := fun he => by
    unfold skipA at he
    split at he
    · rename_i ts hts
      simp only [Option.some.injEq, Prod.mk.injEq] at he
      obtain ⟨rfl, rfl⟩ := he
      exact hn trivial _ E (h.put (Step.refl E) h.heap h.hr hts (by simp only [Rep]; exact ⟨#[], rfl, rfl⟩)) (Step.refl E)
    · cases he
  unfold stepA at hs
  split at hs
  · rename_i hg
    have hw : Region.wanted o (yielded ops a.tmps) = true := by simp [Region.wanted, hg]
    rw [if_pos hw]
    exact .inl (exec hs)
  · rename_i j want hg
    split at hs
    · rename_i d hd
      split at hs
      · rename_i b hb
        obtain ⟨v, hv, hx⟩ := h.tmps d _ hb
        simp only [Rep] at hx
        subst hx
        have hy : yielded ops a.tmps j = some b := by
          unfold gdst at hd
          simp [yielded, hd, hv]
        split at hs
        · rename_i e
          have hw : Region.wanted o (yielded ops a.tmps) = true := by simp [Region.wanted, hg, hy, e]
          rw [if_pos hw]
          exact .inl (exec hs)
        · rename_i e
          have hw : ¬ Region.wanted o (yielded ops a.tmps) = true := by simp [Region.wanted, hg, hy, e]
          rw [if_neg hw]
          exact skip hs
      · rename_i b hb
        obtain ⟨v, hv, hx⟩ := h.tmps d _ hb
        simp only [Rep] at hx
        obtain ⟨cs, rfl, _⟩ := hx
        have hy : yielded ops a.tmps j = none := by
          unfold gdst at hd
          simp [yielded, hd, hv]
        have hw : ¬ Region.wanted o (yielded ops a.tmps) = true := by simp [Region.wanted, hg, hy]
        rw [if_neg hw]
        exact skip hs
      · cases hs
    · cases hs

/-! ### A region in the order of its text -/
def runL (P : Program) (specs : FuncId → Option Spec) (kk : Nat) (ops : Array Oper) : List Oper → AS → Option (AS × Prop)
  | [], σ => some (σ, True)
  | o :: r, σ => match stepA P specs kk ops σ o with
    | some (σ', fp) => match runL P specs kk ops r σ' with
      | some (σ'', A) => some (σ'', fp.as ∧ A)
      | none => none
    | none => none

theorem runL_wp {P : Program} {specs : FuncId → Option Spec} {kk : Nat} (hsp : ∀ f s, specs f = some s → FnC P f s.fn) {ops : Array Oper} {Q : Exit → Act → World → Prop} : ∀ (l : List Oper) (k : Nat), (∀ j, l[j]? = ops[k + j]?) → ∀ {σ σ' : AS} {A : Prop} {a : Act} {E : Env}, SR σ a E → runL P specs kk ops l σ = some (σ', A) →
    (A → ∀ a' E', SR σ' a' E' → Step E E' → Q .normal a' E'.w) → wpOps P ops Q (List.range' k l.length) a E.w
  | [], k, _, σ, σ', A, a, E, h, hr, hq => by
    simp only [runL, Option.some.injEq, Prod.mk.injEq] at hr
    obtain ⟨rfl, rfl⟩ := hr
    exact hq trivial a E h (Step.refl E)
  | o :: r, k, hl, σ, σ', A, a, E, h, hr, hq => by
    simp only [runL] at hr
    split at hr
    · rename_i σ1 fp hs
      split at hr
      · rename_i σ2 A2 hr2
        simp only [Option.some.injEq, Prod.mk.injEq] at hr
        obtain ⟨rfl, rfl⟩ := hr
        have ho : ops[k]? = some o := by have := hl 0; simpa using this.symm
        rw [List.length_cons, List.range'_succ]
        simp only [wpOps, ho]
        exact step_wp hsp h hs fun has a' E' h1 h2 => runL_wp hsp r (k + 1) (fun j => by have := hl (j + 1); simpa [Nat.add_comm, Nat.add_left_comm, Nat.add_assoc] using this) h1 hr2 fun hA a'' E'' h3 h4 => hq ⟨has, hA⟩ a'' E'' h3 (h2.trans h4)
      · cases hr
    · cases hr

theorem region_wp {P : Program} {specs : FuncId → Option Spec} {kk : Nat} (hsp : ∀ f s, specs f = some s → FnC P f s.fn) {ops : Array Oper} {Q : Exit → Act → World → Prop} {id : Nat} {σ σ' : AS} {A : Prop} {a : Act} {E : Env} (h : SR σ a E) (hr : runL P specs kk ops ops.toList σ = some (σ', A))
    (hq : A → ∀ a' E', SR σ' a' E' → Step E E' → Q .normal a' E'.w) : (Code.region id ops false).wp P Q a E.w := by
  refine wp_region ?_
  have := runL_wp hsp (Q := Q) ops.toList 0 (fun j => by simp) h hr hq
  rw [List.range_eq_range']
  simpa using this
end Go.Abs
