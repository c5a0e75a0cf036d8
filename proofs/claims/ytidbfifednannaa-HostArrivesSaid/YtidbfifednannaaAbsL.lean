/- A region whose order is drawn: what its operations may look at decides that the order is nothing. Conditions: none. -/
import Derived.Test.YtidbfifednannaaAbsK
namespace Go.Abs
open Go

/-! ### What a run looks at -/
theorem AP.run_local {α : Type} : ∀ (p : AP α) (H H2 : NL ABlk) (o : Out α), p.run H = some o → (∀ id ∈ o.rd, lk H id = lk H2 id) →
    ∃ H3, p.run H2 = some { o with H := H3 } ∧ (∀ id, lk H3 id = if id ∈ o.wr then lk o.H id else lk H2 id) ∧ ∀ id, id ∉ o.wr → lk o.H id = lk H id
  | .ret a, H, H2, o, h, _ => by
    simp only [AP.run, Option.some.injEq] at h
    subst h
    exact ⟨H2, rfl, by simp, by simp⟩
  | .fail, _, _, _, h, _ => by simp [AP.run] at h
  | .get id k, H, H2, o, h, hr => by
    have key : ∀ b o1, (lk H id).getD {} = b → (k b).run H = some o1 → o = { o1 with rd := id :: o1.rd } → ∃ H3, (AP.get id k).run H2 = some { o with H := H3 } ∧ (∀ id, lk H3 id = if id ∈ o.wr then lk o.H id else lk H2 id) ∧ ∀ id, id ∉ o.wr → lk o.H id = lk H id := by
      intro b o1 hb h1 e
      subst e
      obtain ⟨H3, q1, q2, q3⟩ := AP.run_local (k b) H H2 o1 h1 (fun i hi => hr i (by simp [hi]))
      refine ⟨H3, ?_, q2, q3⟩
      have hid : lk H2 id = lk H id := (hr id (by simp)).symm
      simp only [AP.run, hid]
      cases hl : lk H id with
      | none => simp [hl] at hb; subst hb; simp [q1]
      | some b' => simp [hl] at hb; subst hb; simp [q1]
    simp only [AP.run] at h
    cases hl : lk H id with
    | none =>
      simp only [hl] at h
      split at h
      · rename_i o1 h1
        simp only [Option.some.injEq] at h
        exact key {} o1 (by simp [hl]) h1 h.symm
      · cases h
    | some b =>
      simp only [hl] at h
      split at h
      · rename_i o1 h1
        simp only [Option.some.injEq] at h
        exact key b o1 (by simp [hl]) h1 h.symm
      · cases h
  | .put id b k, H, H2, o, h, hr => by
    simp only [AP.run] at h
    split at h
    · rename_i o1 h1
      simp only [Option.some.injEq] at h
      subst h
      obtain ⟨H3, q1, q2, q3⟩ := AP.run_local k (st H id b) (st H2 id b) o1 h1 (fun i hi => by
        simp only [lk_st]; split
        · rfl
        · exact hr i hi)
      refine ⟨H3, by simp only [AP.run, q1], fun i => ?_, fun i hi => ?_⟩
      · rw [q2 i, lk_st]
        by_cases e1 : i ∈ o1.wr
        · simp [e1]
        · by_cases e2 : id = i
          · subst e2
            have := q3 id e1
            rw [lk_st, if_pos rfl] at this
            simp [e1, this]
          · have e3 : ¬ i = id := fun h => e2 h.symm
            simp only [List.mem_cons, e1, e3, or_self, if_false, e2]
      · simp only [List.mem_cons, not_or] at hi
        rw [q3 i hi.2, lk_st, if_neg (fun e => hi.1 e.symm)]
    · cases h
  | .asm p k, H, H2, o, h, hr => by
    simp only [AP.run] at h
    split at h
    · rename_i o1 h1
      simp only [Option.some.injEq] at h
      subst h
      obtain ⟨H3, q1, q2, q3⟩ := AP.run_local k H H2 o1 h1 hr
      exact ⟨H3, by simp only [AP.run, q1], q2, q3⟩
    · cases h

theorem map_congr_op {ρ ρ' : Operand → AV} {xs : Array Operand} (h : ∀ x ∈ xs.toList, ρ x = ρ' x) : xs.toList.map ρ = xs.toList.map ρ' := List.map_congr_left h
theorem opC_congr {P : Program} {specs : FuncId → Option Spec} {ρ ρ' : Operand → AV} {dst : Nat} {op : Op} (h : ∀ x ∈ op.operands.toList, ρ x = ρ' x) : opC P specs ρ dst op = opC P specs ρ' dst op := by
  have pairs : ∀ ps : Array (Nat × Operand), (∀ x ∈ (ps.toList.map (·.2)), ρ x = ρ' x) → (ps.toList.map fun p => (p.1, ρ p.2)) = (ps.toList.map fun p => (p.1, ρ' p.2)) := fun ps hp =>
    List.map_congr_left fun p hm => by rw [hp p.2 (List.mem_map.2 ⟨p, hm, rfl⟩)]
  cases op with
  | call c =>
    obtain ⟨callee, args, ts⟩ := c
    have ha : ∀ x ∈ args.toList, ρ x = ρ' x := fun x hx => h x (by simp [Op.operands, Call.operands]; right; simpa using hx)
    have hm : args.toList.map ρ = args.toList.map ρ' := map_congr_op ha
    cases callee with
    | value fx =>
      have hf : ρ fx = ρ' fx := h fx (by simp [Op.operands, Call.operands])
      simp only [opC, hf, hm]
    | builtin b => simp only [opC, hm]
    | invoke r m => rfl
  | build t ps => simp only [opC, opA]; rw [pairs ps (fun x hx => h x (by simpa [Op.operands] using hx))]
  | buildSlice t n ps => simp only [opC, opA]; rw [pairs ps (fun x hx => h x (by simpa [Op.operands] using hx))]
  | makeFunc fn first caps =>
    simp only [opC, opA]
    rw [map_congr_op (xs := first) (fun x hx => h x (by simp [Op.operands]; left; simpa using hx)), map_congr_op (xs := caps) (fun x hx => h x (by simp [Op.operands]; right; simpa using hx))]
  | makeMap t r =>
    cases r with
    | none => rfl
    | some y => rfl
  | slice t x lo hi mx =>
    cases mx with
    | some m =>
      have h1 : ρ x = ρ' x := h x (by simp [Op.operands])
      have h2 : lo.map ρ = lo.map ρ' := by cases lo with
        | none => rfl
        | some y => simp only [Option.map_some]; rw [h y (by simp [Op.operands])]
      have h3 : hi.map ρ = hi.map ρ' := by cases hi with
        | none => rfl
        | some y => simp only [Option.map_some]; rw [h y (by simp [Op.operands])]
      have h4 : ρ m = ρ' m := h m (by simp [Op.operands])
      simp only [opC, opA, h1, h2, h3, h4]
    | none =>
      have h1 : ρ x = ρ' x := h x (by simp [Op.operands])
      have h2 : lo.map ρ = lo.map ρ' := by cases lo with
        | none => rfl
        | some y => simp only [Option.map_some]; rw [h y (by simp [Op.operands])]
      have h3 : hi.map ρ = hi.map ρ' := by cases hi with
        | none => rfl
        | some y => simp only [Option.map_some]; rw [h y (by simp [Op.operands])]
      simp only [opC, opA, h1, h2, h3]
  | _ => simp only [opC, opA] <;> (simp only [Op.operands] at h) <;> simp_all

/-! ### One step -/
structure Eqv (σ τ : AS) : Prop where
  n : σ.n = τ.n
  tmps : ∀ t, lk σ.tmps t = lk τ.tmps t
  heap : ∀ id, lk σ.heap id = lk τ.heap id
theorem Eqv.refl (σ : AS) : Eqv σ σ := ⟨rfl, fun _ => rfl, fun _ => rfl⟩
theorem Eqv.symm {σ τ : AS} (h : Eqv σ τ) : Eqv τ σ := ⟨h.n.symm, fun t => (h.tmps t).symm, fun i => (h.heap i).symm⟩
theorem Eqv.trans {σ τ υ : AS} (h : Eqv σ τ) (g : Eqv τ υ) : Eqv σ υ := ⟨h.n.trans g.n, fun t => (h.tmps t).trans (g.tmps t), fun i => (h.heap i).trans (g.heap i)⟩
theorem SR.eqv {σ τ : AS} {a : Act} {E : Env} (h : SR σ a E) (e : Eqv σ τ) : SR τ a E :=
  ⟨by rw [h.heap]; exact funext e.heap, h.hr, h.defers, by rw [h.size, e.n], fun t x ht => h.tmps t x (by rw [e.tmps]; exact ht)⟩

theorem putA_local {σ τ : AS} {dst : Option Nat} {x : AV} {ts : NL AV} (hn : τ.n = σ.n) (h : putA σ dst x = some ts) :
    ∃ ts', putA τ dst x = some ts' ∧ ∀ t, lk ts' t = if dst = some t then lk ts t else lk τ.tmps t := by
  cases dst with
  | none => exact ⟨τ.tmps, rfl, by simp⟩
  | some d =>
    simp only [putA] at h ⊢
    rw [hn]
    split at h
    · rename_i hd
      rw [if_pos hd]
      simp only [Option.some.injEq] at h
      subst h
      refine ⟨_, rfl, fun t => ?_⟩
      simp only [lk, Option.some.injEq]
      split <;> rfl
    · cases h

theorem stepA_local {P : Program} {specs : FuncId → Option Spec} {kk : Nat} {ops : Array Oper} {σ σ1 τ : AS} {o : Oper} {fp : FP} (h : stepA P specs kk ops σ o = some (σ1, fp)) (hn : τ.n = σ.n)
    (ht : ∀ t ∈ o.looksAt ops, lk σ.tmps t = lk τ.tmps t) (hh : ∀ id ∈ fp.rd, lk σ.heap id = lk τ.heap id) :
    ∃ τ1, stepA P specs kk ops τ o = some (τ1, fp) ∧ τ1.n = τ.n ∧ (∀ t, lk τ1.tmps t = if o.dst = some t then lk σ1.tmps t else lk τ.tmps t) ∧ ∀ id, lk τ1.heap id = if id ∈ fp.wr then lk σ1.heap id else lk τ.heap id := by
  have hev : ∀ x ∈ o.op.operands.toList, σ.ev x = τ.ev x := by
    intro x hx
    cases x with
    | tmp t =>
      simp only [AS.ev]
      rw [ht t (by simp only [Oper.looksAt, List.mem_append, List.mem_filterMap]; left; exact ⟨.tmp t, hx, rfl⟩)]
    | _ => rfl
  have exec : execA P specs kk σ o = some (σ1, fp) → ∃ τ1, execA P specs kk τ o = some (τ1, fp) ∧ τ1.n = τ.n ∧ (∀ t, lk τ1.tmps t = if o.dst = some t then lk σ1.tmps t else lk τ.tmps t) ∧ ∀ id, lk τ1.heap id = if id ∈ fp.wr then lk σ1.heap id else lk τ.heap id := by
    intro he
    unfold execA at he ⊢
    rw [← opC_congr (P := P) (specs := specs) (dst := o.dst.getD 0 + kk) hev]
    split at he
    · rename_i out ho
      split at he
      · rename_i ts hts
        simp only [Option.some.injEq, Prod.mk.injEq] at he
        obtain ⟨rfl, rfl⟩ := he
        obtain ⟨H3, q1, q2, _⟩ := AP.run_local _ _ τ.heap _ ho hh
        obtain ⟨ts', p1, p2⟩ := putA_local hn hts
        rw [q1]
        simp only [p1]
        exact ⟨_, rfl, rfl, p2, q2⟩
      · cases he
    · cases he
  have skip : skipA σ o = some (σ1, fp) → ∃ τ1, skipA τ o = some (τ1, fp) ∧ τ1.n = τ.n ∧ (∀ t, lk τ1.tmps t = if o.dst = some t then lk σ1.tmps t else lk τ.tmps t) ∧ ∀ id, lk τ1.heap id = if id ∈ fp.wr then lk σ1.heap id else lk τ.heap id := by
    intro he
    unfold skipA at he ⊢
    split at he
    · rename_i ts hts
      simp only [Option.some.injEq, Prod.mk.injEq] at he
      obtain ⟨rfl, rfl⟩ := he
      obtain ⟨ts', p1, p2⟩ := putA_local hn hts
      simp only [p1]
      exact ⟨_, rfl, rfl, p2, by simp⟩
    · cases he
  unfold stepA at h ⊢
  cases hg : o.guard with
  | none =>
    simp only [hg] at h ⊢
    exact exec h
  | some p =>
    obtain ⟨j, want⟩ := p
    simp only [hg] at h ⊢
    cases hd : gdst ops j with
    | none => simp [hd] at h
    | some d =>
      simp only [hd] at h ⊢
      have hl : lk σ.tmps d = lk τ.tmps d := ht d (by
        simp only [Oper.looksAt, hg, List.mem_append]
        right
        unfold gdst at hd
        simp [hd])
      rw [← hl]
      split at h
      · rename_i b hb
        split at h
        · rename_i e; simp only [e, if_true]; exact exec h
        · rename_i e; simp only [e, if_false]; exact skip h
      · exact skip h
      · cases h

/-! ### Orders -/
section
variable {P : Program} {specs : FuncId → Option Spec} {kk : Nat} {ops : Array Oper}
def Runs (P : Program) (specs : FuncId → Option Spec) (kk : Nat) (ops : Array Oper) (Φ : Nat → FP) : List Nat → AS → AS → Prop
  | [], σ, σ' => Eqv σ σ'
  | i :: L, σ, σ' => ∃ o σ1, ops[i]? = some o ∧ stepA P specs kk ops σ o = some (σ1, Φ i) ∧ Runs P specs kk ops Φ L σ1 σ'

theorem Runs.congr {Φ : Nat → FP} : ∀ {L : List Nat} {σ τ σ' : AS}, Eqv σ τ → Runs P specs kk ops Φ L σ σ' → Runs P specs kk ops Φ L τ σ'
  | [], σ, τ, σ', e, h => e.symm.trans h
  | i :: L, σ, τ, σ', e, ⟨o, σ1, ho, hs, h⟩ => by
    obtain ⟨τ1, q1, q2, q3, q4⟩ := stepA_local hs e.n.symm (fun t _ => e.tmps t) (fun id _ => e.heap id)
    refine ⟨o, τ1, ho, q1, Runs.congr ?_ h⟩
    obtain ⟨σ2, r1, r2, r3, r4⟩ := stepA_local (τ := σ) hs rfl (fun t _ => rfl) (fun id _ => rfl)
    rw [hs] at r1; cases r1
    refine ⟨by rw [r2, q2, e.n], fun t => ?_, fun id => ?_⟩
    · rw [q3]
      split
      · rfl
      · rename_i q; rw [r3, if_neg q]; exact e.tmps t
    · rw [q4]
      split
      · rfl
      · rename_i q; rw [r4, if_neg q]; exact e.heap id

structure Indep (ops : Array Oper) (Φ : Nat → FP) (i j : Nat) : Prop where
  apart : ∀ oi oj, ops[i]? = some oi → ops[j]? = some oj → oi.apart ops oj = true
  ij : ∀ id ∈ (Φ i).wr, id ∉ (Φ j).rd ∧ id ∉ (Φ j).wr
  ji : ∀ id ∈ (Φ j).wr, id ∉ (Φ i).rd

theorem Runs.swap {Φ : Nat → FP} {i j : Nat} {L : List Nat} {σ σ' : AS} (hi : Indep ops Φ i j) (h : Runs P specs kk ops Φ (i :: j :: L) σ σ') : Runs P specs kk ops Φ (j :: i :: L) σ σ' := by
  obtain ⟨oi, σ1, ho1, hs1, oj, σ2, ho2, hs2, h⟩ := h
  obtain ⟨a1, a2, a3⟩ := Oper.apart_spec (hi.apart oi oj ho1 ho2)
  obtain ⟨σ1', f1, f2, f3, f4⟩ := stepA_local (τ := σ) hs1 rfl (fun t _ => rfl) (fun id _ => rfl)
  rw [hs1] at f1; cases f1
  obtain ⟨σ2', g1, g2, g3, g4⟩ := stepA_local (τ := σ1) hs2 rfl (fun t _ => rfl) (fun id _ => rfl)
  rw [hs2] at g1; cases g1
  obtain ⟨τ1, q1, q2, q3, q4⟩ := stepA_local (τ := σ) hs2 f2.symm
    (fun t ht => by
      have e : ¬ oi.dst = some t := fun e => a1 t e ht
      rw [f3, if_neg e])
    (fun id hid => by
      have e : ¬ id ∈ (Φ i).wr := fun e => (hi.ij id e).1 hid
      rw [f4, if_neg e])
  obtain ⟨τ2, r1, r2, r3, r4⟩ := stepA_local (τ := τ1) hs1 q2
    (fun t ht => by
      have e : ¬ oj.dst = some t := fun e => a3 t e ht
      rw [q3, if_neg e])
    (fun id hid => by
      have e : ¬ id ∈ (Φ j).wr := fun e => hi.ji id e hid
      rw [q4, if_neg e])
  refine ⟨oj, τ1, ho2, q1, oi, τ2, ho1, r1, Runs.congr ⟨by rw [g2, f2, r2, q2], fun t => ?_, fun id => ?_⟩ h⟩
  · rw [r3, q3]
    by_cases e1 : oi.dst = some t
    · have e2 : ¬ oj.dst = some t := a2 t e1
      rw [if_pos e1, g3 t, if_neg e2]
    · rw [if_neg e1]
      by_cases e2 : oj.dst = some t
      · rw [if_pos e2]
      · rw [if_neg e2, g3 t, if_neg e2, f3 t, if_neg e1]
  · rw [r4, q4]
    by_cases e1 : id ∈ (Φ i).wr
    · have e2 := (hi.ij id e1).2
      rw [if_pos e1, g4 id, if_neg e2]
    · rw [if_neg e1]
      by_cases e2 : id ∈ (Φ j).wr
      · rw [if_pos e2]
      · rw [if_neg e2, g4 id, if_neg e2, f4 id, if_neg e1]

theorem Runs.move {Φ : Nat → FP} {i : Nat} {L2 : List Nat} : ∀ {L1 : List Nat} {σ σ' : AS}, (∀ x ∈ L1, Indep ops Φ x i) → Runs P specs kk ops Φ (L1 ++ i :: L2) σ σ' → Runs P specs kk ops Φ (i :: (L1 ++ L2)) σ σ'
  | [], _, _, _, h => h
  | x :: L1, σ, σ', hi, h => by
    obtain ⟨o, σ1, ho, hs, h⟩ := h
    have h1 := Runs.move (L1 := L1) (fun y hy => hi y (by simp [hy])) h
    exact Runs.swap (hi x (by simp)) ⟨o, σ1, ho, hs, h1⟩

/-- What is not yet carried out. -/
def unl (n : Nat) (listed : Array Bool) : List Nat := (List.range n).filter fun i => !listed.getD i true
theorem set_getD {listed : Array Bool} {i : Nat} (hi : i < listed.size) (x : Nat) : (listed.setIfInBounds i true).getD x true = if x = i then true else listed.getD x true := by
  rw [Array.getD_eq_getD_getElem?, Array.getD_eq_getD_getElem?, Array.getElem?_setIfInBounds]
  by_cases e : i = x
  · subst e; simp [hi]
  · have e' : ¬ x = i := fun h => e h.symm
    rw [if_neg e, if_neg e']
theorem mem_unl {n : Nat} {listed : Array Bool} {x : Nat} : x ∈ unl n listed ↔ x < n ∧ listed.getD x true = false := by
  unfold unl
  rw [List.mem_filter, List.mem_range, Bool.not_eq_eq_eq_not, Bool.not_true]
theorem unl_split {n : Nat} {listed : Array Bool} {i : Nat} (hsz : listed.size = n) (hi : i < n) (hu : listed.getD i true = false) :
    ∃ L1 L2, unl n listed = L1 ++ i :: L2 ∧ unl n (listed.setIfInBounds i true) = L1 ++ L2 ∧ ∀ x ∈ L1, x < i ∧ listed.getD x true = false := by
  have hr : List.range n = List.range i ++ i :: (List.range' (i + 1) (n - i - 1)) := by
    rw [List.range_eq_range', List.range_eq_range', show n = i + (1 + (n - i - 1)) from by omega, ← List.range'_append_1, ← List.range'_append_1]
    simp
  have hset := set_getD (listed := listed) (i := i) (by omega)
  refine ⟨(List.range i).filter fun x => !listed.getD x true, (List.range' (i + 1) (n - i - 1)).filter fun x => !listed.getD x true, ?_, ?_, fun x hx => ?_⟩
  · simp only [unl]
    rw [hr, List.filter_append, List.filter_cons, if_pos (by simp [hu])]
  · simp only [unl]
    rw [hr, List.filter_append, List.filter_cons, if_neg (by simp [hset])]
    congr 1
    · refine List.filter_congr fun x hx => ?_
      have : x < i := by simpa using hx
      rw [hset, if_neg (by omega)]
    · refine List.filter_congr fun x hx => ?_
      have := (List.mem_range'_1.1 hx).1
      rw [hset, if_neg (by omega)]
  · simp only [List.mem_filter, List.mem_range, Bool.not_eq_eq_eq_not, Bool.not_true] at hx
    exact hx

/-- The edges that bind in every order. -/
def binds (o : Oper) (j : Nat) : Prop := ∃ e ∈ o.after.toList, Region.binds .any e = true ∧ e.on = j

theorem any_wp (hsp : ∀ f s, specs f = some s → FnC P f s.fn) {Φ : Nat → FP} {Q : Exit → Act → World → Prop} {σ' : AS} {B : Nat → Nat → Prop}
    (hedge : ∀ i o, ops[i]? = some o → ∀ j, binds o j → j < i) (hB : ∀ i x, B x i → ∃ o, ops[i]? = some o ∧ ∃ j, binds o j ∧ (x = j ∨ B x j))
    (hind : ∀ x i, x < i → i < ops.size → B x i ∨ Indep ops Φ x i) :
    ∀ (fuel : Nat) (listed : Array Bool) {σ : AS} {a : Act} {E : Env}, SR σ a E → listed.size = ops.size → (∀ i o, ops[i]? = some o → listed.getD i true = true → ∀ j, binds o j → listed.getD j true = true) →
      (unl ops.size listed).length ≤ fuel → Runs P specs kk ops Φ (unl ops.size listed) σ σ' → ((∀ i ∈ unl ops.size listed, (Φ i).as) → ∀ a' E', SR σ' a' E' → Step E E' → Q .normal a' E'.w) →
      wpAny P .any ops Q fuel listed a E.w := by
  have done : ∀ (listed : Array Bool) {σ : AS} {a : Act} {E : Env}, SR σ a E → unl ops.size listed = [] → Runs P specs kk ops Φ (unl ops.size listed) σ σ' → ((∀ i ∈ unl ops.size listed, (Φ i).as) → ∀ a' E', SR σ' a' E' → Step E E' → Q .normal a' E'.w) → Q .normal a E.w := by
    intro listed σ a E h hu hr hq
    rw [hu] at hr hq
    exact hq (by simp) a E (h.eqv hr) (Step.refl E)
  have prog : ∀ (listed : Array Bool), listed.size = ops.size → Region.ready .any ops listed = [] → unl ops.size listed = [] := by
    intro listed hsz hready
    cases hu : unl ops.size listed with
    | nil => rfl
    | cons i L =>
      exfalso
      have hmem : i ∈ unl ops.size listed := by rw [hu]; simp
      have hi : i < ops.size ∧ listed.getD i true = false := mem_unl.1 hmem
      have hmin : ∀ j, j < i → listed.getD j true = true := by
        intro j hj
        by_cases hjl : listed.getD j true = true
        · exact hjl
        · exfalso
          have hjm : listed.getD j true = false := by simpa using hjl
          obtain ⟨L1, L2, h1, _, h3⟩ := unl_split hsz hi.1 hi.2
          have hjmem : j ∈ unl ops.size listed := mem_unl.2 ⟨by omega, hjm⟩
          rw [hu] at h1 hjmem
          cases L1 with
          | nil =>
            simp only [List.nil_append, List.cons.injEq, true_and] at h1
            simp only [List.mem_cons] at hjmem
            rcases hjmem with e | e
            · omega
            · -- later elements are greater
              have hs : (unl ops.size listed).Pairwise (· < ·) := List.Pairwise.filter _ (by rw [List.range_eq_range']; exact List.pairwise_lt_range')
              rw [hu, List.pairwise_cons] at hs
              have := hs.1 j e
              omega
          | cons y L1 =>
            simp only [List.cons_append, List.cons.injEq] at h1
            obtain ⟨rfl, _⟩ := h1
            have := (h3 i (by simp)).1
            omega
      have hr : i ∈ Region.ready .any ops listed := by
        simp only [Region.ready, List.mem_filter, List.mem_range]
        refine ⟨hi.1, ?_⟩
        have ho : ops[i]? = some ops[i] := by simp [hi.1]
        rw [Array.getD_eq_getD_getElem?] at *
        simp only [hi.2, Bool.not_false, Bool.true_and, ho, Option.map_some, Option.getD_some]
        rw [← Array.all_toList, List.all_eq_true]
        intro e he
        cases hb : Region.binds .any e with
        | false => simp
        | true =>
          have hlt := hedge i _ ho e.on ⟨e, he, hb, rfl⟩
          have := hmin e.on hlt
          have hin : e.on < listed.size := by omega
          rw [Array.getD_eq_getD_getElem?] at this ⊢
          simp only [Array.getElem?_eq_getElem hin, Option.getD_some] at this ⊢
          simp [this]
      rw [hready] at hr
      cases hr
  intro fuel
  induction fuel with
  | zero =>
    intro listed σ a E h hsz hdc hl hr hq
    have hu : unl ops.size listed = [] := List.eq_nil_of_length_eq_zero (by omega)
    refine ⟨?_, done listed h hu hr hq⟩
    cases hrd : Region.ready .any ops listed with
    | nil => rfl
    | cons i L =>
      exfalso
      have : i ∈ Region.ready .any ops listed := by rw [hrd]; simp
      simp only [Region.ready, List.mem_filter, List.mem_range, Bool.and_eq_true, Bool.not_eq_eq_eq_not, Bool.not_true] at this
      have hm : i ∈ unl ops.size listed := mem_unl.2 ⟨this.1, this.2.1⟩
      rw [hu] at hm
      cases hm
  | succ fuel ih =>
    intro listed σ a E h hsz hdc hl hr hq
    refine ⟨fun h0 => done listed h (prog listed hsz h0) hr hq, fun i hi => ?_⟩
    simp only [Region.ready, List.mem_filter, List.mem_range, Bool.and_eq_true, Bool.not_eq_eq_eq_not, Bool.not_true] at hi
    obtain ⟨hin, hiu, hedges⟩ := hi
    have ho : ops[i]? = some ops[i] := by simp [hin]
    have hdir : ∀ j, binds ops[i] j → listed.getD j true = true := by
      intro j ⟨e, he, hb, hj⟩
      simp only [ho, Option.map_some, Option.getD_some] at hedges
      rw [← Array.all_toList, List.all_eq_true] at hedges
      have := hedges e he
      simp only [hb, Bool.not_true, Bool.false_or, hj] at this
      have hjlt : j < listed.size := by have := hedge i _ ho j ⟨e, he, hb, hj⟩; omega
      rw [Array.getD_eq_getD_getElem?] at this ⊢
      simp only [Array.getElem?_eq_getElem hjlt, Option.getD_some] at this ⊢
      exact this
    obtain ⟨L1, L2, u1, u2, u3⟩ := unl_split hsz hin hiu
    have hB' : ∀ m x j, j ≤ m → B x j → (∀ o, ops[j]? = some o → ∀ k, binds o k → listed.getD k true = true) → listed.getD x true = true := by
      intro m
      induction m with
      | zero =>
        intro x j hjm hb hk
        obtain ⟨o, hoj, k, hbk, _⟩ := hB j x hb
        have := hedge j o hoj k hbk
        omega
      | succ m ihm =>
        intro x j hjm hb hk
        obtain ⟨o, hoj, k, hbk, hxk⟩ := hB j x hb
        have hkl := hk o hoj k hbk
        rcases hxk with e | e
        · rw [e]; exact hkl
        · have := hedge j o hoj k hbk
          exact ihm x k (by omega) e (fun o' ho' k' hk' => hdc k o' ho' hkl k' hk')
    have hindep : ∀ x ∈ L1, Indep ops Φ x i := by
      intro x hx
      obtain ⟨x1, x2⟩ := u3 x hx
      rcases hind x i x1 hin with hb | hb
      · have := hB' i x i (Nat.le_refl _) hb (fun o ho' k hk => by rw [ho] at ho'; cases ho'; exact hdir k hk)
        rw [x2] at this; cases this
      · exact hb
    have hr' := hr
    rw [u1] at hr'
    obtain ⟨o, σ1, ho', hs, hr2⟩ := Runs.move hindep hr'
    rw [ho] at ho'; cases ho'
    unfold wpOp
    simp only [ho]
    refine step_wp hsp h hs fun has a' E' h1 h2 => ?_
    refine ih (listed.setIfInBounds i true) h1 (by simpa using hsz) ?_ ?_ (by rw [u2]; exact hr2) ?_
    · intro k o hk hkl j hj
      have hset := set_getD (listed := listed) (i := i) (by omega)
      rw [hset] at hkl ⊢
      split
      · rfl
      · by_cases e : k = i
        · subst e
          rw [ho] at hk; cases hk
          exact hdir j hj
        · rw [if_neg e] at hkl
          exact hdc k o hk hkl j hj
    · rw [u2]
      rw [u1] at hl
      simp only [List.length_append, List.length_cons] at hl ⊢
      omega
    · intro hA a'' E'' g1 g2
      refine hq (fun x hx => ?_) a'' E'' g1 (h2.trans g2)
      rw [u1] at hx
      rw [u2] at hA
      simp only [List.mem_append, List.mem_cons] at hx
      rcases hx with hx | hx | hx
      · exact hA x (by simp [hx])
      · subst hx; exact has
      · exact hA x (by simp [hx])
end
end Go.Abs
