/- The abstract machine's store and the reading of it. Conditions: none. -/
import Derived.Test.YtidbfifednannaaAbsA
import Derived.Laws.Cells
import Derived.Laws.Rows
namespace Go.Abs
open Go

/-! ### Numbered lists -/
abbrev NL (α : Type) := List (Nat × α)
def lk {α : Type} : NL α → Nat → Option α
  | [], _ => none
  | (j, a) :: r, i => if j = i then some a else lk r i
def st {α : Type} : NL α → Nat → α → NL α
  | [], i, a => [(i, a)]
  | (j, b) :: r, i, a => if i < j then (i, a) :: (j, b) :: r else if i = j then (i, a) :: r else (j, b) :: st r i a
theorem lk_st {α : Type} : ∀ (l : NL α) (i : Nat) (a : α) (k : Nat), lk (st l i a) k = if i = k then some a else lk l k
  | [], i, a, k => by simp [st, lk]
  | (j, b) :: r, i, a, k => by
    simp only [st]
    split
    · simp only [lk]
    · split
      · rename_i h1 h2; subst h2; simp only [lk]; split <;> rfl
      · rename_i h1 h2
        simp only [lk, lk_st r i a k]
        by_cases hk : j = k
        · subst hk; simp [h2]
        · simp [hk]
theorem lk_st_fun {α : Type} (l : NL α) (i : Nat) (a : α) : lk (st l i a) = fun k => if i = k then some a else lk l k := funext (lk_st l i a)

/-! ### The small language in which the abstract operations are written -/
inductive AP (α : Type) where
  | ret (a : α)
  | fail
  | get (id : Nat) (k : ABlk → AP α)
  | put (id : Nat) (b : ABlk) (k : AP α)
  | asm (p : Prop) (k : AP α)
def AP.bind {α β : Type} : AP α → (α → AP β) → AP β
  | .ret a, f => f a
  | .fail, _ => .fail
  | .get id k, f => .get id fun b => (k b).bind f
  | .put id b k, f => .put id b (k.bind f)
  | .asm p k, f => .asm p (k.bind f)
structure Out (α : Type) where
  val : α
  H : NL ABlk
  rd : List Nat
  wr : List Nat
  as : Prop
def AP.run {α : Type} : AP α → NL ABlk → Option (Out α)
  | .ret a, H => some ⟨a, H, [], [], True⟩
  | .fail, _ => none
  | .get id k, H => match lk H id with
    | none => match (k {}).run H with
      | some o => some { o with rd := id :: o.rd }
      | none => none
    | some b => match (k b).run H with
      | some o => some { o with rd := id :: o.rd }
      | none => none
  | .put id b k, H => match k.run (st H id b) with
    | some o => some { o with wr := id :: o.wr }
    | none => none
  | .asm p k, H => match k.run H with
    | some o => some { o with as := p ∧ o.as }
    | none => none

/-! ### The store's relation -/
def BlkOK (E : Env) (id : Nat) (blk : ABlk) : Prop :=
  match blk.kind with
  | 0 => True
  | 1 | 2 => ∃ C : Array Value, (0 < E.cs id → E.w.heap[E.φ id]? = some (.cells C blk.elem (0, 0))) ∧ C.size = E.cs id ∧ 0 < blk.size ∧ blk.rows.length * blk.size ≤ C.size ∧
      (∀ (r : Nat) (row : List AV), blk.rows[r]? = some row → row.length = blk.size) ∧
      ∀ (r : Nat) (row : List AV) (j : Nat) (x : AV), blk.rows[r]? = some row → row[j]? = some x → ∃ u, C[r * blk.size + j]? = some u ∧ u.oneCell' = true ∧ CellR E blk.inl x u
  | 3 => 0 < E.cs id ∧ ∃ es clock, E.w.heap[E.φ id]? = some (.map es clock) ∧ (es.toList.Pairwise fun a b => a.born < b.born) ∧ (∀ e ∈ es.toList, e.born < clock) ∧ es.size = blk.rows.length ∧
      ∀ (r : Nat) (row : List AV), blk.rows[r]? = some row → ∃ (k v : AV) (e : MapEntry), row = [k, v] ∧ es[r]? = some e ∧ Rep E k e.key ∧ Rep E v e.val
  | _ => False

structure HR (E : Env) : Prop where
  blk : ∀ id blk, E.H id = some blk → BlkOK E id blk
  inj : ∀ i j bi bj, E.H i = some bi → E.H j = some bj → bi.kind ≠ 0 → bj.kind ≠ 0 → 0 < E.cs i → 0 < E.cs j → i ≠ j → E.φ i ≠ E.φ j
  nf : ∀ id blk, E.H id = some blk → blk.kind ≠ 0 → 0 < E.cs id → E.φ id < E.w.heap.size ∧ ¬ E.F (E.φ id)
  fb : ∀ b, E.F b → b < E.w.heap.size

theorem HR.cells {E : Env} (h : HR E) {id : Nat} {blk : ABlk} (hb : E.H id = some blk) (hk : blk.kind = 1 ∨ blk.kind = 2) :
    ∃ C : Array Value, (0 < E.cs id → E.w.heap[E.φ id]? = some (.cells C blk.elem (0, 0))) ∧ C.size = E.cs id ∧ 0 < blk.size ∧ blk.rows.length * blk.size ≤ C.size ∧
      (∀ (r : Nat) (row : List AV), blk.rows[r]? = some row → row.length = blk.size) ∧
      ∀ (r : Nat) (row : List AV) (j : Nat) (x : AV), blk.rows[r]? = some row → row[j]? = some x → ∃ u, C[r * blk.size + j]? = some u ∧ u.oneCell' = true ∧ CellR E blk.inl x u := by
  have := h.blk id blk hb
  unfold BlkOK at this
  rcases hk with hk | hk <;> simpa only [hk] using this

theorem BlkOK.mk_cells {E : Env} {id : Nat} {blk : ABlk} (hk : blk.kind = 1 ∨ blk.kind = 2) (h : ∃ C : Array Value, (0 < E.cs id → E.w.heap[E.φ id]? = some (.cells C blk.elem (0, 0))) ∧ C.size = E.cs id ∧ 0 < blk.size ∧ blk.rows.length * blk.size ≤ C.size ∧
      (∀ (r : Nat) (row : List AV), blk.rows[r]? = some row → row.length = blk.size) ∧
      ∀ (r : Nat) (row : List AV) (j : Nat) (x : AV), blk.rows[r]? = some row → row[j]? = some x → ∃ u, C[r * blk.size + j]? = some u ∧ u.oneCell' = true ∧ CellR E blk.inl x u) : BlkOK E id blk := by
  unfold BlkOK
  rcases hk with hk | hk <;> simpa only [hk] using h

theorem BlkOK.mono {E E' : Env} (s : Step E E') {k : Nat} {b : ABlk} (hφ : E'.φ k = E.φ k) (hcs : E'.cs k = E.cs k) (hh : b.kind ≠ 0 → 0 < E.cs k → E'.w.heap[E.φ k]? = E.w.heap[E.φ k]?) (h : BlkOK E k b) : BlkOK E' k b := by
  unfold BlkOK at h ⊢
  by_cases hz : b.kind = 0
  · simp only [hz]
  rw [hφ, hcs]
  split <;> rename_i hkk <;> simp only [hkk] at h
  · trivial
  · obtain ⟨C0, a1, a2, a3, a4, a5, a6⟩ := h
    exact ⟨C0, fun hp => by rw [hh hz hp]; exact a1 hp, a2, a3, a4, a5, fun r row j x h1 h2 => by
      obtain ⟨u, b1, b2, b3⟩ := a6 r row j x h1 h2
      exact ⟨u, b1, b2, b3.mono s⟩⟩
  · obtain ⟨C0, a1, a2, a3, a4, a5, a6⟩ := h
    exact ⟨C0, fun hp => by rw [hh hz hp]; exact a1 hp, a2, a3, a4, a5, fun r row j x h1 h2 => by
      obtain ⟨u, b1, b2, b3⟩ := a6 r row j x h1 h2
      exact ⟨u, b1, b2, b3.mono s⟩⟩
  · obtain ⟨hp, es, cl, a1, a2, a2', a3, a4⟩ := h
    exact ⟨hp, es, cl, by rw [hh hz hp]; exact a1, a2, a2', a3, fun r row h1 => by
      obtain ⟨x, v, e, b1, b2, b3, b4⟩ := a4 r row h1
      exact ⟨x, v, e, b1, b2, Rep.mono s _ _ b3, Rep.mono s _ _ b4⟩⟩

/-! ### Types -/
def szOf (P : Program) (t : TypeId) : Option Nat := (P.info? t).map (·.size)
def aggT (P : Program) (t : TypeId) : Option Bool := (P.underlying t).map fun | .struct _ | .array _ _ => true | _ => false
theorem run_sizeOf' {P : Program} {t : TypeId} {s : Nat} (h : szOf P t = some s) (w : World) : (sizeOf t).run P w = .ok s w := by
  unfold szOf at h
  cases hi : P.info? t with
  | none => simp [hi] at h
  | some i => simp [hi] at h; simp [sizeOf, typeInfo, hi, h]
theorem run_isAgg' {P : Program} {t : TypeId} {b : Bool} (h : aggT P t = some b) (w : World) : (isAgg t).run P w = .ok b w := by
  unfold aggT at h
  cases hi : P.underlying t with
  | none => simp [hi] at h
  | some d =>
    simp only [hi, Option.map_some, Option.some.injEq] at h
    simp only [isAgg, underlying, Sem.run_bind, run_program, Result.andThen_ok, hi, Sem.run_pure]
    subst h
    cases d <;> simp
theorem run_underlying' {P : Program} {t : TypeId} {d : TypeDesc} (h : P.underlying t = some d) (w : World) : (underlying t).run P w = .ok d w := by
  simp [underlying, h]

theorem add_mk (b off n : Nat) : Addr.add ⟨b, off, none⟩ n = ⟨b, off + n, none⟩ := by
  unfold Addr.add; split
  · rename_i h; simp [h]
  · rfl

/-! ### Reading -/
def mkv (P : Program) (t : TypeId) (cells : List AV) : AP AV :=
  match aggT P t with
  | some true => match szOf P t with
    | some s => if s ≤ cells.length then .ret (.agg (cells.take s)) else .fail
    | none => .fail
  | some false => match cells with
    | x :: _ => .ret x
    | [] => .fail
  | none => .fail

theorem loadVar_run {P : Program} {w : World} {t : TypeId} {cells : List AV} {b off : Nat} {R : AV → Value → Prop}
    (hc : ∀ i x, cells[i]? = some x → ∃ v, w.cell? ⟨b, off + i, none⟩ = some v ∧ R x v) {H : NL ABlk} {out : Out AV} (h : (mkv P t cells).run H = some out) :
    out = ⟨out.val, H, [], [], True⟩ ∧ ∃ v, (loadVar t ⟨b, off, none⟩).run P w = .ok v w ∧
      ((∃ s vs, aggT P t = some true ∧ szOf P t = some s ∧ s ≤ cells.length ∧ out.val = .agg (cells.take s) ∧ v = .agg vs ∧ vs.size = s ∧ ∀ i x, i < s → cells[i]? = some x → ∃ u, vs[i]? = some u ∧ R x u) ∨
       (aggT P t = some false ∧ cells[0]? = some out.val ∧ R out.val v)) := by
  unfold mkv at h
  cases ha : aggT P t with
  | none => simp [ha, AP.run] at h
  | some bb =>
    cases bb with
    | true =>
      cases hs : szOf P t with
      | none => simp [ha, hs, AP.run] at h
      | some s =>
        simp only [ha, hs] at h
        split at h
        · rename_i hle
          simp only [AP.run, Option.some.injEq] at h
          subst h
          refine ⟨rfl, ?_⟩
          -- the cells' values
          have hex : ∀ i, i < cells.length → ∃ v, w.cell? ⟨b, off + i, none⟩ = some v ∧ ∀ x, cells[i]? = some x → R x v := by
            intro i hi
            obtain ⟨v, hv, hr⟩ := hc i _ (List.getElem?_eq_getElem hi)
            exact ⟨v, hv, fun x hx => by rw [List.getElem?_eq_getElem hi] at hx; cases hx; exact hr⟩
          have hf : ∀ i, ∃ v : Value, i < cells.length → w.cell? ⟨b, off + i, none⟩ = some v ∧ ∀ x, cells[i]? = some x → R x v := by
            intro i
            by_cases hi : i < cells.length
            · obtain ⟨v, hv⟩ := hex i hi; exact ⟨v, fun _ => hv⟩
            · exact ⟨undef, fun h => absurd h hi⟩
          obtain ⟨f, hf⟩ := Classical.axiomOfChoice hf
          have hrun := run_loadCells (P := P) w ⟨b, off, none⟩ s f (fun j hj => by rw [add_mk]; exact (hf j (by omega)).1)
          refine ⟨.agg ((List.range s).map f).toArray, ?_, .inl ⟨s, ((List.range s).map f).toArray, rfl, rfl, hle, rfl, rfl, ?_, ?_⟩⟩
          · simp only [loadVar, Sem.run_bind, run_isAgg' ha, Result.andThen_ok, if_true, run_sizeOf' hs, hrun, Sem.run_pure]
          · simp
          · intro i x hi hx
            exact ⟨f i, by simp [hi], (hf i (by omega)).2 x hx⟩
        · simp [AP.run] at h
    | false =>
      simp only [ha] at h
      cases cells with
      | nil => simp [AP.run] at h
      | cons x r =>
        simp only [AP.run, Option.some.injEq] at h
        subst h
        obtain ⟨v, hv, hr⟩ := hc 0 x (by simp)
        refine ⟨rfl, v, ?_, .inr ⟨rfl, by simp, hr⟩⟩
        simp only [loadVar, Sem.run_bind, run_isAgg' ha, Result.andThen_ok, Bool.false_eq_true, if_false, run_load]
        simp only [Nat.add_zero] at hv
        simp [hv]


theorem RepL.take {E : Env} {xs : List AV} {vs : List Value} (h : RepL E xs vs) (k : Nat) : RepL E (xs.take k) (vs.take k) :=
  RepL.of_get (by rw [List.length_take, List.length_take, h.length]) fun i x hx => by
    rw [List.getElem?_take] at hx ⊢
    split at hx
    · rename_i hi; rw [if_pos hi]; exact h.get hx
    · cases hx
theorem RepL.drop {E : Env} {xs : List AV} {vs : List Value} (h : RepL E xs vs) (k : Nat) : RepL E (xs.drop k) (vs.drop k) :=
  RepL.of_get (by rw [List.length_drop, List.length_drop, h.length]) fun i x hx => by
    rw [List.getElem?_drop] at hx ⊢
    exact h.get hx

theorem mkv_load {P : Program} {E : Env} {t : TypeId} {cells : List AV} {b off : Nat}
    (hc : ∀ i x, cells[i]? = some x → ∃ v, E.w.cell? ⟨b, off + i, none⟩ = some v ∧ Rep E x v) {H : NL ABlk} {out : Out AV} (h : (mkv P t cells).run H = some out) :
    out = ⟨out.val, H, [], [], True⟩ ∧ ∃ v, (loadVar t ⟨b, off, none⟩).run P E.w = .ok v E.w ∧ Rep E out.val v := by
  obtain ⟨h1, v, h2, h3⟩ := loadVar_run hc h
  refine ⟨h1, v, h2, ?_⟩
  rcases h3 with ⟨s, vs, _, _, hle, ho, hv, hsz, hg⟩ | ⟨_, _, hr⟩
  · rw [ho]
    simp only [Rep]
    refine ⟨vs, hv, RepL.of_get (by simp [hsz]; omega) fun i x hx => ?_⟩
    rw [List.getElem?_take] at hx
    split at hx
    · rename_i hi
      obtain ⟨u, hu, hr⟩ := hg i x hi hx
      exact ⟨u, by simpa using hu, hr⟩
    · cases hx
  · exact hr

/-! ### What an abstract operation owes -/
/-- The computation 'c' does in the world of 'E' what 'p' tells. -/
def Snd (P : Program) (E : Env) (H : NL ABlk) (p : AP AV) (c : Sem Value) : Prop :=
  ∀ out, p.run H = some out → ∃ v E', c.run P E.w = .ok v E'.w ∧ E'.H = lk out.H ∧ HR E' ∧ Step E E' ∧ Rep E' out.val v ∧ out.as

theorem Snd.fail {P : Program} {E : Env} {H : NL ABlk} {c : Sem Value} : Snd P E H .fail c := fun _ h => by simp [AP.run] at h
theorem Snd.ret {P : Program} {E : Env} {H : NL ABlk} {c : Sem Value} {x : AV} {v : Value} (hH : E.H = lk H) (hr : HR E) (h : c.run P E.w = .ok v E.w) (hx : Rep E x v) : Snd P E H (.ret x) c :=
  fun out h' => by
    simp only [AP.run, Option.some.injEq] at h'
    subst h'
    exact ⟨v, E, h, hH, hr, Step.refl E, hx, trivial⟩
theorem Snd.get {P : Program} {E : Env} {H : NL ABlk} {c : Sem Value} {id : Nat} {k : ABlk → AP AV} {b : ABlk} (hb : lk H id = some b) (h : Snd P E H (k b) c) : Snd P E H (.get id k) c :=
  fun out h' => by
    simp only [AP.run, hb] at h'
    split at h'
    · rename_i o ho
      simp only [Option.some.injEq] at h'
      subst h'
      exact h o ho
    · cases h'
theorem Snd.asm {P : Program} {E : Env} {H : NL ABlk} {c : Sem Value} {p : Prop} {k : AP AV} (hp : p) (h : Snd P E H k c) : Snd P E H (.asm p k) c :=
  fun out h' => by
    simp only [AP.run] at h'
    split at h'
    · rename_i o ho
      simp only [Option.some.injEq] at h'
      subst h'
      obtain ⟨v, E', h1, h2, h3, h4, h5, h6⟩ := h o ho
      exact ⟨v, E', h1, h2, h3, h4, h5, hp, h6⟩
    · cases h'

/-- The parts of a run's result that every reading leaves alone. -/
theorem Snd.of_pure {P : Program} {E : Env} {H : NL ABlk} {c : Sem Value} {p : AP AV} (hH : E.H = lk H) (hr : HR E)
    (h : ∀ out, p.run H = some out → out.H = H ∧ out.as ∧ ∃ v, c.run P E.w = .ok v E.w ∧ Rep E out.val v) : Snd P E H p c :=
  fun out ho => by
    obtain ⟨h1, h2, v, h3, h4⟩ := h out ho
    exact ⟨v, E, h3, by rw [h1]; exact hH, hr, Step.refl E, h4, h2⟩

/-! ### load -/
def loadA (P : Program) (t : TypeId) (x : AV) : AP AV :=
  match x with
  | .ptr id g r o => .get id fun b =>
    if b.gen = g ∧ (b.kind = 1 ∨ b.kind = 2) then
      match b.rows[r]? with
      | some row => mkv P t (row.drop o)
      | none => .fail
    else .fail
  | .cptr cells => mkv P t cells
  | _ => .fail

theorem cell_of_heap {w : World} {b i : Nat} {C : Array Value} {t : TypeId} {fr : Nat × Nat} (h : w.heap[b]? = some (.cells C t fr)) : w.cell? ⟨b, i, none⟩ = C[i]? := by
  simp [World.cell?, h]

theorem load_snd {P : Program} {E : Env} {H : NL ABlk} (hH : E.H = lk H) (hr : HR E) {t : TypeId} {x : AV} {v : Value} (hx : Rep E x v) :
    Snd P E H (loadA P t x) (Instr.loadAt t v) := by
  cases x with
  | ptr id g r o =>
    simp only [Rep] at hx
    obtain ⟨blk, a, hb, hle, rfl, hg⟩ := hx
    simp only [loadA]
    rw [hH] at hb
    refine Snd.get hb ?_
    split
    · rename_i hc
      obtain ⟨hk, rfl⟩ := hg hc.1
      cases hrow : blk.rows[r]? with
      | none => exact Snd.fail
      | some row =>
        refine Snd.of_pure hH hr fun out ho => ?_
        obtain ⟨C, hC, hcs, hsz, hle, hlen, hcell⟩ := hr.cells (by rw [hH]; exact hb) hk
        obtain ⟨e1, u, e2, e3⟩ := mkv_load (b := E.φ id) (off := r * blk.size + o) (fun i x hx => by
          rw [List.getElem?_drop] at hx
          obtain ⟨u, hu, _, hru⟩ := hcell r row (o + i) x hrow hx
          refine ⟨u, ?_, hru.rep⟩
          have hpos : 0 < E.cs id := by rw [← hcs]; have := (Array.getElem?_eq_some_iff.1 hu).1; omega
          rw [cell_of_heap (hC hpos), ← hu]
          congr 1; omega) ho
        rw [e1]
        refine ⟨rfl, trivial, u, ?_, e3⟩
        simp only [Instr.loadAt, Instr.sureAddr, Sem.run_bind, Sem.run_pure, Result.andThen_ok]
        exact e2
    · exact Snd.fail
  | cptr cells =>
    simp only [Rep, RepI] at hx
    obtain ⟨b, off, rfl, hi, hc⟩ := hx
    simp only [loadA]
    refine Snd.of_pure hH hr fun out ho => ?_
    obtain ⟨e1, u, e2, e3⟩ := mkv_load (E := E) (b := b) (off := off) (fun i x hx => by
      obtain ⟨u, hu, _, hru⟩ := hc.get hx
      exact ⟨u, hu, hru.rep⟩) ho
    rw [e1]
    refine ⟨rfl, trivial, u, ?_, e3⟩
    simp only [Instr.loadAt, Instr.sureAddr, Sem.run_bind, Sem.run_pure, Result.andThen_ok]
    exact e2
  | _ => exact Snd.fail
end Go.Abs
