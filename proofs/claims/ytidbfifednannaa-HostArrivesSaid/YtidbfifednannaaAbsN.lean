/- Functions in the abstract frame: from the body's abstract run to what the function is known to do. Conditions: none. -/
import Derived.Test.YtidbfifednannaaAbsM
namespace Go.Abs
open Go

def num {α : Type} : Nat → List α → NL α
  | _, [] => []
  | k, x :: r => (k, x) :: num (k + 1) r
theorem lk_num {α : Type} : ∀ (l : List α) (k i : Nat), lk (num k l) i = if k ≤ i then l[i - k]? else none
  | [], k, i => by simp [num, lk]
  | x :: r, k, i => by
    simp only [num, lk, lk_num r (k + 1) i]
    by_cases h : k = i
    · subst h; simp
    · rw [if_neg h]
      by_cases h2 : k + 1 ≤ i
      · rw [if_pos h2, if_pos (by omega), show i - k = (i - (k + 1)) + 1 from by omega, List.getElem?_cons_succ]
      · rw [if_neg h2, if_neg (by omega)]

def frzT (x : AV) (k : AV → AP AV) : AP AV :=
  match x with
  | .tup cs => frzVs cs fun cs' => k (.tup cs')
  | x => frzV x k
def inlV : AV → Bool
  | .agg cs => cs.all AV.isInl
  | x => x.isInl
def inlT : AV → Bool
  | .tup cs => cs.all inlV
  | x => inlV x

theorem inlL_rep {E : Env} {p : AV → Bool} (hp : ∀ {x : AV} {v : Value}, p x = true → Rep E x v → RepI E.w E.imm x v) : ∀ {xs : List AV} {vs : List Value}, xs.all p = true → RepL E xs vs → RepIL E.w E.imm xs vs
  | [], _, _, h => by simpa only [RepL, RepIL] using h
  | x :: r, vs, ha, h => by
    simp only [List.all_cons, Bool.and_eq_true] at ha
    simp only [RepL] at h
    simp only [RepIL]
    obtain ⟨v, vs', rfl, h1, h2⟩ := h
    exact ⟨v, vs', rfl, hp ha.1 h1, inlL_rep hp ha.2 h2⟩
theorem inlV_rep {E : Env} {x : AV} {v : Value} (h : inlV x = true) (hx : Rep E x v) : RepI E.w E.imm x v := by
  unfold inlV at h
  split at h
  · simp only [Rep] at hx
    simp only [RepI]
    obtain ⟨cs, rfl, hc⟩ := hx
    exact ⟨cs, rfl, inlL_rep (fun h hx => isInl_rep hx h) h hc⟩
  · exact isInl_rep hx h
theorem inlT_rep {E : Env} {x : AV} {v : Value} (h : inlT x = true) (hx : Rep E x v) : RepI E.w E.imm x v := by
  unfold inlT at h
  split at h
  · simp only [Rep] at hx
    simp only [RepI]
    obtain ⟨cs, rfl, hc⟩ := hx
    exact ⟨cs, rfl, inlL_rep inlV_rep h hc⟩
  · exact inlV_rep h hx

def PureAct (v : Value) : ActW where
  f w K := K v w
  mono _ _ _ h hk := h _ _ hk
theorem frzT_run {E : Env} {H : NL ABlk} (hH : E.H = lk H) (hr : HR E) {x : AV} {v : Value} (hx : Rep E x v) {out : Out AV} (ho : (frzT x .ret).run H = some out) :
    ∃ E', E'.w = E.w ∧ HR E' ∧ Step E E' ∧ Rep E' out.val v := by
  have : SndW E H (frzT x .ret) (PureAct v) := by
    unfold frzT
    split
    · simp only [Rep] at hx
      obtain ⟨cs, rfl, hc⟩ := hx
      refine frzVs_w hH hr hc fun E1 H1 xs' e1 e2 e3 e4 e5 => fun out ho => ?_
      simp only [AP.run, Option.some.injEq] at ho; subst ho
      refine ⟨trivial, E1, rfl, e2, e3, Step.refl _, ?_⟩
      simp only [Rep]
      exact ⟨cs, rfl, RepIL.rep _ _ e5⟩
    · refine frzV_w hH hr hx fun E1 H1 x' e1 e2 e3 e4 e5 => fun out ho => ?_
      simp only [AP.run, Option.some.injEq] at ho; subst ho
      exact ⟨trivial, E1, rfl, e2, e3, Step.refl _, e5.rep⟩
  obtain ⟨_, E', h1, _, h3, h4, h5⟩ := this out ho
  exact ⟨E', h1, h3, h4, h5⟩

/-! ### Results -/
def resV (P : Program) (σ : AS) : ResultVar → Option AV
  | .tmp t => some (σ.ev (.tmp t))
  | .cell a t => match (loadA P t (σ.ev (.tmp a))).run σ.heap with
    | some o => some o.val
    | none => none
def resVs (P : Program) (σ : AS) : List ResultVar → Option (List AV)
  | [] => some []
  | r :: rs => match resV P σ r, resVs P σ rs with
    | some x, some xs => some (x :: xs)
    | _, _ => none
def pack : List AV → AV
  | [x] => x
  | xs => .tup xs

theorem loadA_run {P : Program} {E : Env} {H : NL ABlk} (hH : E.H = lk H) (hr : HR E) {t : TypeId} {x : AV} {v : Value} (hx : Rep E x v) {o : Out AV} (ho : (loadA P t x).run H = some o) : ∃ u, (Instr.loadAt t v).run P E.w = .ok u E.w ∧ Rep E o.val u := by
  obtain ⟨u, E', h1, h2, h3, h4, h5, h6⟩ := load_snd (P := P) hH hr (t := t) hx o ho
  -- a load leaves everything as it is
  cases x with
  | ptr id g r off =>
    simp only [Rep] at hx
    obtain ⟨blk, a, hb, hle, rfl, hg⟩ := hx
    rw [hH] at hb
    simp only [loadA, AP.run, hb] at ho
    split at ho
    · rename_i o1 ho1
      simp only [Option.some.injEq] at ho
      subst ho
      split at ho1
      · rename_i hc
        obtain ⟨hk, rfl⟩ := hg hc.1
        split at ho1
        · rename_i row hrow
          obtain ⟨C, hC, hcs, hsz, hle, hlen, hcell⟩ := hr.cells (by rw [hH]; exact hb) hk
          obtain ⟨e1, u, e2, e3⟩ := mkv_load (P := P) (b := E.φ id) (off := r * blk.size + off) (fun i x hx => by
            rw [List.getElem?_drop] at hx
            obtain ⟨u, hu, _, hru⟩ := hcell r row (off + i) x hrow hx
            refine ⟨u, ?_, hru.rep⟩
            have hpos : 0 < E.cs id := by rw [← hcs]; have := (Array.getElem?_eq_some_iff.1 hu).1; omega
            rw [cell_of_heap (hC hpos), ← hu]
            congr 1; omega) ho1
          refine ⟨u, ?_, e3⟩
          simp only [Instr.loadAt, Instr.sureAddr, Sem.run_bind, Sem.run_pure, Result.andThen_ok]
          exact e2
        · simp [AP.run] at ho1
      · simp [AP.run] at ho1
    · cases ho
  | cptr cells =>
    simp only [Rep, RepI] at hx
    obtain ⟨b, off, rfl, hi, hc⟩ := hx
    simp only [loadA] at ho
    obtain ⟨e1, u, e2, e3⟩ := mkv_load (E := E) (b := b) (off := off) (fun i x hx => by
      obtain ⟨u, hu, _, hru⟩ := hc.get hx
      exact ⟨u, hu, hru.rep⟩) ho
    refine ⟨u, ?_, e3⟩
    simp only [Instr.loadAt, Instr.sureAddr, Sem.run_bind, Sem.run_pure, Result.andThen_ok]
    exact e2
  | _ => simp [loadA, AP.run] at ho

def resF (tmps : Array Value) (r : ResultVar) : Sem Value :=
  match r with
  | .tmp t => pure (tmps.getD t undef)
  | .cell a t => do loadVar t (← asAddr (tmps.getD a undef))
theorem results_eq (fn : Func) (tmps : Array Value) : results fn tmps = (do let vs ← fn.results.mapM (resF tmps); pure (if h : vs.size = 1 then vs[0] else .tuple vs)) := rfl

theorem resVs_run {P : Program} {σ : AS} {a : Act} {E : Env} (h : SR σ a E) {fn : Func} {xs : List AV} (hx : resVs P σ fn.results.toList = some xs) :
    ∃ v, (results fn a.tmps).run P E.w = .ok v E.w ∧ Rep E (pack xs) v := by
  have key : ∀ (rs : List ResultVar) (xs : List AV), resVs P σ rs = some xs → ∃ vs, (rs.mapM (resF a.tmps)).run P E.w = .ok vs E.w ∧ RepL E xs vs := by
    intro rs
    induction rs with
    | nil => intro xs hx; simp only [resVs, Option.some.injEq] at hx; subst hx; exact ⟨[], by simp, by simp [RepL]⟩
    | cons r rs ih =>
      intro xs hx
      simp only [resVs] at hx
      split at hx
      · rename_i x xs' e1 e2
        simp only [Option.some.injEq] at hx
        subst hx
        obtain ⟨vs, g1, g2⟩ := ih xs' e2
        have hr : ∃ u, (resF a.tmps r).run P E.w = .ok u E.w ∧ Rep E x u := by
          cases r with
          | tmp t =>
            simp only [resV, Option.some.injEq] at e1
            subst e1
            exact ⟨_, rfl, h.ev (.tmp t)⟩
          | cell ad t =>
            simp only [resV] at e1
            split at e1
            · rename_i o ho
              simp only [Option.some.injEq] at e1
              subst e1
              obtain ⟨u, q1, q2⟩ := loadA_run h.heap h.hr (h.ev (.tmp ad)) ho
              refine ⟨u, ?_, q2⟩
              simp only [Act.eval] at q1
              simp only [Instr.loadAt, Sem.run_bind] at q1
              simp only [resF, Sem.run_bind]
              generalize a.tmps.getD ad undef = vv at *
              cases vv <;> simp [Instr.sureAddr] at q1
              rename_i oa
              cases oa <;> simp at q1
              simpa [asAddr] using q1
            · cases e1
        obtain ⟨u, q1, q2⟩ := hr
        refine ⟨u :: vs, ?_, by simp only [RepL]; exact ⟨u, vs, rfl, q2, g2⟩⟩
        rw [List.mapM_cons]
        simp only [Sem.run_bind, q1, Result.andThen_ok, g1, Sem.run_pure]
      · cases hx
  obtain ⟨vs, h1, h2⟩ := key _ xs hx
  rw [results_eq, Array.mapM_eq_mapM_toList]
  have hl := h2.length
  simp only [Sem.run_bind, Sem.run_map, h1, Result.andThen_ok, Sem.run_pure]
  match vs, xs, hl, h2 with
  | [v], [x], _, h2 =>
    refine ⟨v, by simp, ?_⟩
    simp only [RepL] at h2
    obtain ⟨_, _, he, hx, _⟩ := h2
    cases he
    exact hx
  | [], [], _, h2 => exact ⟨.tuple #[], by simp, by simp only [pack, Rep]; exact ⟨_, rfl, h2⟩⟩
  | v :: u :: vs, x :: y :: xs, _, h2 => exact ⟨.tuple (v :: u :: vs).toArray, by simp, by simp only [pack, Rep]; exact ⟨_, rfl, h2⟩⟩

/-! ### Handing out new blocks -/
def expF (exp : List Nat) (H : NL ABlk) (i g : Nat) : Option (Nat × Nat) :=
  match exp.idxOf? i with
  | some k => match lk H i with
    | some b => if b.gen = g then some (k, 0) else none
    | none => none
  | none => none
def expB (H : NL ABlk) (i : Nat) : Option ABlk :=
  match lk H i with
  | some b => if b.inl = true ∧ b.kind = 2 then some { b with gen := 0 } else none
  | none => none

/-- What a function that was handed no block leaves: data alone, or data with new blocks. -/
def RetQ (P : Program) (fn : Func) (r : AV) (B : List ABlk) (e : Exit) (σ : AS) : Prop :=
  (e = .normal ∨ e = .ret) ∧ ∃ xs, resVs P σ fn.results.toList = some xs ∧
    ((B = [] ∧ ∃ out, (frzT (pack xs) .ret).run σ.heap = some out ∧ out.val = r ∧ inlT r = true) ∨
     (∃ exp : List Nat, exp.Nodup ∧ exp.map (expB σ.heap) = B.map some ∧ r = (pack xs).ren (expF exp σ.heap)))

theorem export_env {E0 E : Env} (hE0 : E0.H = fun _ => none) {H : NL ABlk} (hH : E.H = lk H) (hr : HR E) (hs : Step E0 E) {exp : List Nat} (hnd : exp.Nodup) {B : List ABlk} (hB : exp.map (expB H) = B.map some) :
    ∃ E', E'.w = E.w ∧ E'.H = (fun i => B[i]?) ∧ HR E' ∧ Step E0 E' ∧ RenOK (expF exp H) E E' := by
  have hlen : exp.length = B.length := by have := congrArg List.length hB; simpa using this
  have hget : ∀ (i : Nat) (b : ABlk), B[i]? = some b → ∃ (id : Nat) (b0 : ABlk), exp[i]? = some id ∧ lk H id = some b0 ∧ b0.inl = true ∧ b0.kind = 2 ∧ b = { b0 with gen := 0 } := by
    intro i b hb
    have hi : i < exp.length := by rw [hlen]; exact (List.getElem?_eq_some_iff.1 hb).1
    have h1 : (exp.map (expB H))[i]? = some (some b) := by rw [hB, List.getElem?_map, hb]; rfl
    rw [List.getElem?_map, List.getElem?_eq_getElem hi, Option.map_some, Option.some.injEq] at h1
    refine ⟨exp[i], ?_⟩
    unfold expB at h1
    split at h1
    · rename_i b0 hb0
      split at h1
      · rename_i hc
        simp only [Option.some.injEq] at h1
        exact ⟨b0, List.getElem?_eq_getElem hi, hb0, hc.1, hc.2, h1.symm⟩
      · cases h1
    · cases h1
  let φ' : Nat → Nat := fun i => E.φ (exp.getD i 0)
  let cs' : Nat → Nat := fun i => E.cs (exp.getD i 0)
  have hφ : ∀ (i id : Nat), exp[i]? = some id → φ' i = E.φ id ∧ cs' i = E.cs id := fun i id h => by simp [φ', cs', List.getD_eq_getElem?_getD, h]
  have himm : ∀ b, E.imm b → (Env.mk E.w (fun i => B[i]?) φ' cs' E.F).imm b := by
    intro b hb
    refine ⟨hb.1, hb.2.1, fun i blk hbk hk hc he => ?_⟩
    obtain ⟨id, b0, h1, h2, h3, h4, rfl⟩ := hget i blk hbk
    obtain ⟨e1, e2⟩ := hφ i id h1
    exact hb.2.2 id b0 (by rw [hH]; exact h2) (by omega) (by simpa only [e2] using hc) (by simpa only [e1] using he)
  have hold : ∀ b, b < E0.w.heap.size → E.w.heap[b]? = E0.w.heap[b]? := fun b hb => hs.old b hb (fun id blk h => by simp [hE0] at h)
  refine ⟨⟨E.w, fun i => B[i]?, φ', cs', E.F⟩, rfl, rfl, ⟨fun i b hb => ?_, fun i j bi bj hi hj ki kj ci cj hne => ?_, fun i b hb hk hc => ?_, hr.fb⟩, ⟨hs.size, fun b hb _ => hold b hb, hs.fo, fun id blk h => by simp [hE0] at h, fun i b hb hk hc => ?_, hs.kept⟩, ⟨rfl, himm, fun i g i' g' he blk hb hg => ?_, fun i g i' g' he => ?_⟩⟩
  · obtain ⟨id, b0, h1, h2, h3, h4, rfl⟩ := hget i b hb
    obtain ⟨e1, e2⟩ := hφ i id h1
    obtain ⟨C, c1, c2, c3, c4, c5, c6⟩ := hr.cells (id := id) (blk := b0) (by rw [hH]; exact h2) (.inr h4)
    refine BlkOK.mk_cells (.inr h4) ⟨C, fun hp => by simp only [e1]; exact c1 (by simpa only [e2] using hp), by simp only [e2]; exact c2, c3, c4, c5, fun r row j x q1 q2 => ?_⟩
    obtain ⟨u, d1, d2, d3⟩ := c6 r row j x q1 q2
    rw [h3] at d3
    refine ⟨u, d1, d2, ?_⟩
    show CellR _ b0.inl x u
    rw [h3]
    exact RepI.mono (fun b hb => ⟨himm b hb, rfl⟩) _ _ d3
  · obtain ⟨id1, b1, p1, p2, p3, p4, rfl⟩ := hget i bi hi
    obtain ⟨id2, b2, q1, q2, q3, q4, rfl⟩ := hget j bj hj
    obtain ⟨e1, e2⟩ := hφ i id1 p1
    obtain ⟨e3, e4⟩ := hφ j id2 q1
    simp only at ci cj ⊢
    rw [e1, e3]
    refine hr.inj id1 id2 b1 b2 (by rw [hH]; exact p2) (by rw [hH]; exact q2) (by omega) (by omega) (by rw [← e2]; exact ci) (by rw [← e4]; exact cj) (fun e => hne ?_)
    subst e
    have hi' := (List.getElem?_eq_some_iff.1 p1).1
    exact (List.getElem?_inj hi' hnd).1 (by rw [p1, q1])
  · obtain ⟨id, b0, h1, h2, h3, h4, rfl⟩ := hget i b hb
    obtain ⟨e1, e2⟩ := hφ i id h1
    simp only at hc ⊢
    rw [e1]
    exact hr.nf id b0 (by rw [hH]; exact h2) (by omega) (by rw [← e2]; exact hc)
  · right
    obtain ⟨id, b0, h1, h2, h3, h4, rfl⟩ := hget i b hb
    obtain ⟨e1, e2⟩ := hφ i id h1
    simp only at hc ⊢
    rw [e1]
    rcases hs.live id b0 (by rw [hH]; exact h2) (by omega) (by rw [← e2]; exact hc) with ⟨blk, hb0, _⟩ | hge
    · simp [hE0] at hb0
    · exact hge
  · unfold expF at he
    split at he
    · rename_i k hk
      split at he
      · rename_i b0 hb0
        split at he
        · simp only [Option.some.injEq, Prod.mk.injEq] at he
          obtain ⟨rfl, rfl⟩ := he
          rw [hH] at hb
          rw [hb0] at hb; cases hb
          have hkl : exp[k]? = some i := by
            rw [List.idxOf?_eq_some_iff] at hk
            obtain ⟨h1, h2, _⟩ := hk
            rw [List.getElem?_eq_getElem h1]
            simpa using h2
          obtain ⟨e1, e2⟩ := hφ k i hkl
          have hkB : k < B.length := by rw [← hlen]; exact (List.getElem?_eq_some_iff.1 hkl).1
          obtain ⟨id, b1, h1, h2, h3, h4, h5⟩ := hget k _ (List.getElem?_eq_getElem hkB)
          rw [hkl] at h1; cases h1
          rw [hb0] at h2; cases h2
          refine ⟨B[k], List.getElem?_eq_getElem hkB, by rw [h5], by rw [h5], by rw [h5], e1, e2⟩
        · cases he
      · cases he
    · cases he
  · unfold expF at he
    split at he
    · split at he
      · rename_i b0 hb0
        split at he
        · rename_i hg
          exact ⟨b0, by rw [hH]; exact hb0, hg⟩
        · cases he
      · cases he
    · cases he

def init (fn : Func) (args : List AV) : AS := { n := args.length + (fn.ntmps - args.length), tmps := num 0 args, heap := [] }

theorem FnC.intro {P : Program} {specs : FuncId → Option Spec} (hm : P.follows .mixedOrders = true) (hsp : ∀ f s, specs f = some s → FnC P f s.fn) {f : FuncId} {fn : Func} {body : Code}
    (hf : P.funcs[f]? = some fn) (hb : fn.body = some body) (hname : (fn.name == "runtime.NumGoroutine") = false) {S : List AV → Option (AV × List ABlk)}
    (h : ∀ args r B, S args = some (r, B) → awp P specs body (RetQ P fn r B) (init fn args)) : FnC P f (fun args B => match B with
      | [] => S args
      | _ => none) := by
  refine ⟨⟨fn, hf, hname, by simp [hb]⟩, fun args B r B' hS E vs hH hr hx => ?_⟩
  cases B with
  | cons b bs => simp at hS
  | nil =>
    simp only at hS
    have hE0 : E.H = fun _ => none := by rw [hH]; funext i; simp
    have hsz : vs.size = args.length := by have := hx.length; simpa using this
    have hsr : SR (init fn args) { tmps := vs ++ Array.replicate (fn.ntmps - vs.size) undef, defers := [] } E := by
      refine ⟨by rw [hE0]; funext i; simp [init, lk], hr, rfl, by simp [init, hsz], fun t x ht => ?_⟩
      simp only [init, lk_num, Nat.zero_le, if_true, Nat.sub_zero] at ht
      obtain ⟨v, hv, hxv⟩ := hx.get ht
      refine ⟨v, ?_, hxv⟩
      have hlt : t < vs.size := by rw [hsz]; exact (List.getElem?_eq_some_iff.1 ht).1
      rw [Array.getElem?_append_left hlt]
      simpa using hv
    refine calls_of_wp hf hb (wp_mono (awp_sound hm hsp body hsr (h args r B' hS)) fun e a' w' hp => ?_)
    obtain ⟨σ', E1, rfl, h1, h2, he, xs, hxs, hret⟩ := hp
    obtain ⟨v, g1, g2⟩ := resVs_run h1 hxs
    have hfin : ∃ v E', (results fn a'.tmps).run P E1.w = .ok v E1.w ∧ E'.w = E1.w ∧ E'.H = (fun i => B'[i]?) ∧ HR E' ∧ Step E E' ∧ Rep E' r v := by
      rcases hret with ⟨rfl, out, q1, rfl, q3⟩ | ⟨exp, q1, q2, rfl⟩
      · obtain ⟨E2, k1, k2, k3, k4⟩ := frzT_run h1.heap h1.hr g2 q1
        have hi := inlT_rep q3 k4
        have hs := h2.trans k3
        have hold : ∀ b, b < E.w.heap.size → E2.w.heap[b]? = E.w.heap[b]? := fun b hb => hs.old b hb (fun id blk h => by simp [hE0] at h)
        refine ⟨v, ⟨E2.w, fun _ => none, E2.φ, E2.cs, E2.F⟩, g1, k1, by funext i; simp, ⟨fun _ _ h => by simp at h, fun _ _ _ _ h => by simp at h, fun _ _ h => by simp at h, k2.fb⟩, ⟨hs.size, fun b hb _ => hold b hb, hs.fo, fun id blk h => by simp [hE0] at h, fun _ _ h => by simp at h, hs.kept⟩, ?_⟩
        exact RepI.rep _ _ (RepI.mono (fun b hb => ⟨⟨hb.1, hb.2.1, fun _ _ h => by simp at h⟩, rfl⟩) _ _ hi)
      · obtain ⟨E', k1, k2, k3, k4, k5⟩ := export_env hE0 h1.heap h1.hr h2 q1 q2
        exact ⟨v, E', g1, k1, k2, k3, k4, ren_rep k5 _ _ g2⟩
    obtain ⟨v', E', r1, r2, r3, r4, r5, r6⟩ := hfin
    have hfinal : bodyPost P fn (fun e w' => ∃ v E', e = .returned v ∧ E'.w = w' ∧ E'.H = (fun i => B'[i]?) ∧ HR E' ∧ Step E E' ∧ Rep E' r v) .ret a' E1.w :=
      ⟨h1.defers, v', r1, v', E', rfl, r2, r3, r4, r5, r6⟩
    rcases he with rfl | rfl
    · exact hfinal
    · exact hfinal
end Go.Abs
