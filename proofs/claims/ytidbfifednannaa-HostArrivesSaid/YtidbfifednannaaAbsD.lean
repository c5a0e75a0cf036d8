/- The abstract operations that make memory or write it, each with what it owes. Conditions: none. -/
import Derived.Test.YtidbfifednannaaAbsC
import Derived.Laws.Append
import Derived.Laws.AppendOwn
import Derived.Laws.MakeOwn
namespace Go.Abs
open Go

/-! ### The store after a new block, after a write -/
def upd {α : Type} (f : Nat → α) (i : Nat) (a : α) : Nat → α := fun k => if i = k then a else f k
theorem upd_same {α : Type} (f : Nat → α) (i : Nat) (a : α) : upd f i a i = a := by simp [upd]
theorem upd_other {α : Type} (f : Nat → α) (i : Nat) (a : α) {k : Nat} (h : i ≠ k) : upd f i a k = f k := by simp [upd, h]
theorem lk_st_upd {α : Type} (l : NL α) (i : Nat) (a : α) : lk (st l i a) = upd (lk l) i (some a) := lk_st_fun l i a

theorem HR.new {E : Env} (hr : HR E) {id : Nat} {blk : ABlk} {C : Array Value} {w' : World}
    (hsz' : w'.heap.size = E.w.heap.size + 1 ∧ w'.os = E.w.os ∧ w'.output = E.w.output ∧ w'.tape = E.w.tape) (hold : ∀ b, b < E.w.heap.size → w'.heap[b]? = E.w.heap[b]?) (hnew : w'.heap[E.w.heap.size]? = some (.cells C blk.elem (0, 0)))
    (hk : blk.kind = 2) (hg : ∀ old, E.H id = some old → old.gen < blk.gen) (h0 : 0 < blk.size) (hle : blk.rows.length * blk.size ≤ C.size)
    (hlen : ∀ (r : Nat) (row : List AV), blk.rows[r]? = some row → row.length = blk.size)
    (hc : ∀ (r : Nat) (row : List AV) (j : Nat) (x : AV), blk.rows[r]? = some row → row[j]? = some x → ∃ u, C[r * blk.size + j]? = some u ∧ u.oneCell' = true ∧ CellR E blk.inl x u) :
    HR ⟨w', upd E.H id (some blk), upd E.φ id E.w.heap.size, upd E.cs id C.size, E.F⟩ ∧ Step E ⟨w', upd E.H id (some blk), upd E.φ id E.w.heap.size, upd E.cs id C.size, E.F⟩ := by
  have hsz := hsz'.1
  have hs : Step E ⟨w', upd E.H id (some blk), upd E.φ id E.w.heap.size, upd E.cs id C.size, E.F⟩ := by
    refine ⟨by simp only; omega, fun b hb _ => hold b hb, rfl, fun k b hb => ?_, fun k b' hb hk' hc' => ?_, Kept.new hsz' hold (by rw [hnew]; rfl)⟩
    · by_cases e : id = k
      · subst e
        exact ⟨blk, by simp [upd_same], Nat.le_of_lt (hg b hb), fun e => by have := hg b hb; omega⟩
      · exact ⟨b, by simp [upd_other _ _ _ e, hb], Nat.le_refl _, fun _ _ => ⟨.inl rfl, rfl, rfl, by simp [upd_other _ _ _ e], by simp [upd_other _ _ _ e]⟩⟩
    · by_cases e : id = k
      · subst e; right; simp [upd_same]
      · left
        refine ⟨b', by simpa [upd_other _ _ _ e] using hb, hk', by simpa [upd_other _ _ _ e] using hc', by simp [upd_other _ _ _ e]⟩
  refine ⟨⟨fun k b hb => ?_, fun i j bi bj hi hj ki kj ci cj hne => ?_, fun k b hb hk' hc' => ?_, fun b hb => by have := hr.fb b hb; simp only; omega⟩, hs⟩
  · by_cases e : id = k
    · subst e
      simp only [upd_same, Option.some.injEq] at hb
      subst hb
      refine BlkOK.mk_cells (.inr hk) ⟨C, fun _ => by simp only [upd_same]; exact hnew, by simp [upd_same], h0, hle, hlen, fun r row j x h1 h2 => ?_⟩
      obtain ⟨u, hu, ho, hx⟩ := hc r row j x h1 h2
      exact ⟨u, hu, ho, hx.mono hs⟩
    · simp only [upd_other _ _ _ e] at hb
      exact BlkOK.mono hs (by simp [upd_other _ _ _ e]) (by simp [upd_other _ _ _ e]) (fun hz hc => hold _ (hr.nf k b hb hz hc).1) (hr.blk k b hb)
  · by_cases e1 : id = i
    · subst e1
      have e2 : id ≠ j := hne
      simp only [upd_same, upd_other _ _ _ e2] at hj cj ⊢
      have := (hr.nf j bj hj kj cj).1
      omega
    · simp only [upd_other _ _ _ e1] at hi ci ⊢
      by_cases e2 : id = j
      · subst e2
        simp only [upd_same]
        have := (hr.nf i bi hi ki ci).1
        omega
      · simp only [upd_other _ _ _ e2] at hj cj ⊢
        exact hr.inj i j bi bj hi hj ki kj ci cj hne
  · by_cases e : id = k
    · subst e
      simp only [upd_same]
      exact ⟨by omega, fun hf => by have := hr.fb _ hf; omega⟩
    · simp only [upd_other _ _ _ e] at hb hc' ⊢
      have := hr.nf k b hb hk' hc'
      exact ⟨by omega, this.2⟩

/-- A block without cells: nothing in memory. -/
theorem HR.phantom {E : Env} (hr : HR E) {id : Nat} {blk : ABlk} (hk : blk.kind = 2) (hg : ∀ old, E.H id = some old → old.gen < blk.gen) (h0 : 0 < blk.size) (hrows : blk.rows = []) :
    HR ⟨E.w, upd E.H id (some blk), E.φ, upd E.cs id 0, E.F⟩ ∧ Step E ⟨E.w, upd E.H id (some blk), E.φ, upd E.cs id 0, E.F⟩ := by
  have hs : Step E ⟨E.w, upd E.H id (some blk), E.φ, upd E.cs id 0, E.F⟩ := by
    refine ⟨Nat.le_refl _, fun b hb _ => rfl, rfl, fun k b hb => ?_, fun k b' hb hk' hc' => ?_, Kept.refl _⟩
    · by_cases e : id = k
      · subst e
        exact ⟨blk, by simp [upd_same], Nat.le_of_lt (hg b hb), fun e => by have := hg b hb; omega⟩
      · exact ⟨b, by simp [upd_other _ _ _ e, hb], Nat.le_refl _, fun _ _ => ⟨.inl rfl, rfl, rfl, rfl, by simp [upd_other _ _ _ e]⟩⟩
    · by_cases e : id = k
      · subst e; simp [upd_same] at hc'
      · left
        exact ⟨b', by simpa [upd_other _ _ _ e] using hb, hk', by simpa [upd_other _ _ _ e] using hc', rfl⟩
  refine ⟨⟨fun k b hb => ?_, fun i j bi bj hi hj ki kj ci cj hne => ?_, fun k b hb hk' hc' => ?_, hr.fb⟩, hs⟩
  · by_cases e : id = k
    · subst e
      simp only [upd_same, Option.some.injEq] at hb
      subst hb
      refine BlkOK.mk_cells (.inr hk) ⟨#[], fun hp => by simp [upd_same] at hp, by simp [upd_same], h0, by simp [hrows], fun r row h => by simp [hrows] at h, fun r row j x h => by simp [hrows] at h⟩
    · simp only [upd_other _ _ _ e] at hb
      exact BlkOK.mono hs rfl (by simp [upd_other _ _ _ e]) (fun _ _ => rfl) (hr.blk k b hb)
  · by_cases e1 : id = i
    · subst e1; simp [upd_same] at ci
    · by_cases e2 : id = j
      · subst e2; simp [upd_same] at cj
      · simp only [upd_other _ _ _ e1, upd_other _ _ _ e2] at hi hj ci cj
        exact hr.inj i j bi bj hi hj ki kj ci cj hne
  · by_cases e : id = k
    · subst e; simp [upd_same] at hc'
    · simp only [upd_other _ _ _ e] at hb hc'
      exact hr.nf k b hb hk' hc'

theorem HR.write {E : Env} (hr : HR E) {id : Nat} {blk blk' : ABlk} {C : Array Value} {w' : World} (hb : E.H id = some blk) (hk : blk.kind = 2) (hcp : 0 < E.cs id)
    (hsz' : w'.heap.size = E.w.heap.size ∧ w'.os = E.w.os ∧ w'.output = E.w.output ∧ w'.tape = E.w.tape) (hold : ∀ b, b ≠ E.φ id → w'.heap[b]? = E.w.heap[b]?) (hnew : w'.heap[E.φ id]? = some (.cells C blk.elem (0, 0))) (hcs : C.size = E.cs id)
    (hk' : blk'.kind = 2) (hg : blk.gen ≤ blk'.gen) (hs : blk'.size = blk.size) (he : blk'.elem = blk.elem) (hle : blk'.rows.length * blk.size ≤ C.size)
    (hlen : ∀ (r : Nat) (row : List AV), blk'.rows[r]? = some row → row.length = blk.size)
    (hc : ∀ (r : Nat) (row : List AV) (j : Nat) (x : AV), blk'.rows[r]? = some row → row[j]? = some x → ∃ u, C[r * blk.size + j]? = some u ∧ u.oneCell' = true ∧ CellR E blk'.inl x u) :
    HR ⟨w', upd E.H id (some blk'), E.φ, E.cs, E.F⟩ ∧ Step E ⟨w', upd E.H id (some blk'), E.φ, E.cs, E.F⟩ := by
  have h0 : 0 < blk.size := by obtain ⟨C0, _, _, h, _⟩ := hr.cells hb (.inr hk); exact h
  have hsz := hsz'.1
  have hkept : Kept E.w w' := Kept.write hsz' hold (by obtain ⟨C0, h, _⟩ := hr.cells hb (.inr hk); rw [h hcp]; rfl) (by rw [hnew]; rfl)
  have hst : Step E ⟨w', upd E.H id (some blk'), E.φ, E.cs, E.F⟩ := by
    refine ⟨by simp only; omega, fun b _ hn => hold b (fun e => hn id blk hb (by omega) hcp e.symm), rfl, fun k b hbk => ?_, fun k b' hbk hkk hck => ?_, hkept⟩
    · by_cases e : id = k
      · subst e
        rw [hb] at hbk; cases hbk
        exact ⟨blk', by simp [upd_same], hg, fun _ _ => ⟨.inl (by omega), hs, he, rfl, rfl⟩⟩
      · exact ⟨b, by simp [upd_other _ _ _ e, hbk], Nat.le_refl _, fun _ _ => ⟨.inl rfl, rfl, rfl, rfl, rfl⟩⟩
    · left
      by_cases e : id = k
      · subst e; exact ⟨blk, hb, by omega, hck, rfl⟩
      · exact ⟨b', by simpa [upd_other _ _ _ e] using hbk, hkk, hck, rfl⟩
  refine ⟨⟨fun k b hbk => ?_, fun i j bi bj hi hj ki kj ci cj hne => ?_, fun k b hbk hkk hck => ?_, fun b hf => by have := hr.fb b hf; simp only; omega⟩, hst⟩
  · by_cases e : id = k
    · subst e
      simp only [upd_same, Option.some.injEq] at hbk
      subst hbk
      refine BlkOK.mk_cells (.inr hk') ⟨C, fun _ => by simp only [he]; exact hnew, hcs, by omega, by rw [hs]; exact hle, fun r row h1 => by rw [hs]; exact hlen r row h1, fun r row j x h1 h2 => ?_⟩
      obtain ⟨u, hu, ho, hx⟩ := hc r row j x h1 h2
      exact ⟨u, by rw [hs]; exact hu, ho, hx.mono hst⟩
    · simp only [upd_other _ _ _ e] at hbk
      exact BlkOK.mono hst rfl rfl (fun hz hck => hold _ (fun h => hr.inj id k blk b hb hbk (by omega) hz hcp hck e h.symm)) (hr.blk k b hbk)
  · have hi' : ∃ b, E.H i = some b ∧ b.kind ≠ 0 := by
      by_cases e : id = i
      · subst e; exact ⟨blk, hb, by omega⟩
      · exact ⟨bi, by simpa [upd_other _ _ _ e] using hi, ki⟩
    have hj' : ∃ b, E.H j = some b ∧ b.kind ≠ 0 := by
      by_cases e : id = j
      · subst e; exact ⟨blk, hb, by omega⟩
      · exact ⟨bj, by simpa [upd_other _ _ _ e] using hj, kj⟩
    obtain ⟨b1, h1, k1⟩ := hi'
    obtain ⟨b2, h2, k2⟩ := hj'
    exact hr.inj i j b1 b2 h1 h2 k1 k2 ci cj hne
  · have hk2 : ∃ b, E.H k = some b ∧ b.kind ≠ 0 := by
      by_cases e : id = k
      · subst e; exact ⟨blk, hb, by omega⟩
      · exact ⟨b, by simpa [upd_other _ _ _ e] using hbk, hkk⟩
    obtain ⟨b1, h1, k1⟩ := hk2
    have := hr.nf k b1 h1 k1 hck
    exact ⟨by simp only; omega, this.2⟩

theorem Snd.get' {P : Program} {E : Env} {H : NL ABlk} {c : Sem Value} {id : Nat} {k : ABlk → AP AV} (h : Snd P E H (k ((lk H id).getD {})) c) : Snd P E H (.get id k) c :=
  fun out h' => by
    simp only [AP.run] at h'
    cases hb : lk H id with
    | none =>
      simp only [hb] at h'
      split at h'
      · rename_i o ho
        simp only [Option.some.injEq] at h'
        subst h'
        exact h o (by simpa [hb] using ho)
      · cases h'
    | some b =>
      simp only [hb] at h'
      split at h'
      · rename_i o ho
        simp only [Option.some.injEq] at h'
        subst h'
        exact h o (by simpa [hb] using ho)
      · cases h'

/-- The last step of an operation that changes one block. -/
theorem Snd.put_ret {P : Program} {E : Env} {H : NL ABlk} {c : Sem Value} {id : Nat} {b : ABlk} {x : AV} (E' : Env) (v : Value) (hrun : c.run P E.w = .ok v E'.w) (hH : E'.H = upd (lk H) id (some b)) (hr : HR E') (hs : Step E E') (hx : Rep E' x v) :
    Snd P E H (.put id b (.ret x)) c := fun out h => by
  simp only [AP.run, Option.some.injEq] at h
  subst h
  exact ⟨v, E', hrun, by rw [lk_st_upd]; exact hH, hr, hs, hx, trivial⟩

/-! ### Values and their cells -/
def AV.cellish : AV → Bool
  | .any | .agg _ | .tup _ | .slc _ _ _ _ _ => false
  | _ => true
theorem oneCell_of {E : Env} {x : AV} {v : Value} (hx : Rep E x v) (hc : x.cellish = true) : v.oneCell' = true := by
  cases x <;> simp [AV.cellish] at hc <;> simp only [Rep, RepI] at hx
  case bool => subst hx; rfl
  case int => subst hx; rfl
  case str => subst hx; rfl
  case nilp => subst hx; rfl
  case ptr => obtain ⟨_, _, _, _, rfl, _⟩ := hx; rfl
  case cptr => obtain ⟨_, _, rfl, _⟩ := hx; rfl
  case nils => subst hx; rfl
  case sl => obtain ⟨_, _, _, _, _, _, rfl, _⟩ := hx; rfl
  case list => rcases hx with ⟨rfl, _⟩ | ⟨_, _, rfl, _⟩ <;> rfl
  case nilf => subst hx; rfl
  case fn => obtain ⟨_, _, rfl, _⟩ := hx; rfl
  case nilm => subst hx; rfl
  case amap => obtain ⟨_, _, _, _, rfl, _⟩ := hx; rfl
  case psl => obtain ⟨_, _, _, _, _, rfl, _⟩ := hx; rfl
/-- No reference into a block. -/
def AV.isInl : AV → Bool
  | .fn _ [] [] => true
  | .ptr _ _ _ _ | .sl _ _ _ _ | .amap _ _ | .psl _ _ _ _ _ | .slc _ _ _ _ _ | .fn _ _ _ | .agg _ | .tup _ => false
  | _ => true
theorem isInl_rep {E : Env} {x : AV} {v : Value} (h : Rep E x v) (hi : x.isInl = true) : RepI E.w E.imm x v := by
  cases x with
  | fn f a b =>
    simp only [AV.isInl] at hi
    cases a <;> cases b <;> simp at hi
    simp only [Rep] at h
    obtain ⟨fs, cs, rfl, h1, h2⟩ := h
    simp only [RepL] at h1 h2
    simp only [RepI, RepIL]
    exact ⟨fs, cs, rfl, h1, h2⟩
  | ptr => simp [AV.isInl] at hi
  | sl => simp [AV.isInl] at hi
  | amap => simp [AV.isInl] at hi
  | psl => simp [AV.isInl] at hi
  | slc => simp [AV.isInl] at hi
  | agg => simp [AV.isInl] at hi
  | tup => simp [AV.isInl] at hi
  | _ => exact h
/-- The cells of a value; none where they are not known. -/
def AV.cellsOf : AV → Option (List AV)
  | .any | .tup _ | .slc _ _ _ _ _ => none
  | .agg cs => some cs
  | x => some [x]
theorem cellsOf_rep {E : Env} {x : AV} {cs : List AV} {v : Value} (h : x.cellsOf = some cs) (hx : Rep E x v) : RepL E cs v.cells.toList := by
  cases x <;> simp only [AV.cellsOf, Option.some.injEq, reduceCtorEq] at h
  case agg l => subst h; simp only [Rep] at hx; obtain ⟨vs, rfl, h⟩ := hx; exact h
  all_goals
    subst h
    have ho := oneCell_of hx rfl
    have : v.cells = #[v] := by cases v <;> first | rfl | cases ho
    rw [this]
    simp only [RepL]
    exact ⟨v, [], rfl, hx, rfl⟩
def zeroA (P : Program) (t : TypeId) : Option AV := ((P.info? t).bind (·.zero)).map ofValue
theorem zeroA_run {P : Program} {t : TypeId} {x : AV} (h : zeroA P t = some x) : ∃ v, (∀ w, (zeroValue t).run P w = .ok v w) ∧ ∀ E, Rep E x v := by
  unfold zeroA at h
  cases hi : P.info? t with
  | none => simp [hi] at h
  | some i =>
    cases hz : i.zero with
    | none => simp [hi, hz] at h
    | some v =>
      simp only [hi, hz, Option.bind_some, Option.map_some, Option.some.injEq] at h
      subst h
      exact ⟨v, fun w => by simp [zeroValue, typeInfo, hi, hz], fun E => (ofValue_rep v).rep⟩

def newId (dst : Nat) : Nat := 16 * (dst + 1)

/-- One new row. -/
def newRowA (id : Nat) (elem : TypeId) (size : Nat) (inl : Bool) (rows : List (List AV)) (k : Nat → AV) : AP AV :=
  .get id fun old => if 0 < size ∧ rows.all (fun r => r.length == size && r.all fun x => x.cellish && (!inl || x.isInl)) then .put id { gen := old.gen + 1, kind := 2, elem, size, inl, rows } (.ret (k (old.gen + 1))) else .fail

theorem newRow_put {P : Program} {E : Env} {H : NL ABlk} (hH : E.H = lk H) (hr : HR E) {id : Nat} {elem : TypeId} {size : Nat} {inl : Bool} {rows : List (List AV)} {k : Nat → AV} {c : Sem Value} {C : Array Value} {v : Value} {w' : World}
    (hrun : c.run P E.w = .ok v w') (hsz : w'.heap.size = E.w.heap.size + 1 ∧ w'.os = E.w.os ∧ w'.output = E.w.output ∧ w'.tape = E.w.tape) (hold : ∀ b, b < E.w.heap.size → w'.heap[b]? = E.w.heap[b]?) (hnew : w'.heap[E.w.heap.size]? = some (.cells C elem (0, 0)))
    (hle : rows.length * size ≤ C.size)
    (hc : ∀ (r : Nat) (row : List AV) (j : Nat) (x : AV), rows[r]? = some row → row[j]? = some x → ∃ u, C[r * size + j]? = some u ∧ Rep E x u)
    (hv : ∀ (E' : Env) (g : Nat), E'.w = w' → E'.H id = some { gen := g, kind := 2, elem, size, inl, rows } → E'.φ id = E.w.heap.size → E'.cs id = C.size → Rep E' (k g) v)
    (h0 : 0 < size) (hrow : ∀ (r : Nat) (row : List AV), rows[r]? = some row → row.length = size ∧ ∀ x ∈ row, x.cellish = true ∧ (!inl || x.isInl) = true) :
    Snd P E H (.put id { gen := ((lk H id).getD {}).gen + 1, kind := 2, elem, size, inl, rows } (.ret (k (((lk H id).getD {}).gen + 1)))) c := by
  generalize hgen : ((lk H id).getD {}).gen + 1 = g
  obtain ⟨h1, h2⟩ := hr.new (id := id) (blk := { gen := g, kind := 2, elem, size, inl, rows }) hsz hold hnew rfl (fun old ho => by rw [hH] at ho; simp [ho] at hgen; simp only; omega) h0 hle (fun r row h => (hrow r row h).1)
    (fun r row j x h1 h2 => by
      obtain ⟨u, hu, hx⟩ := hc r row j x h1 h2
      have hxx := (hrow r row h1).2 x (List.mem_of_getElem? h2)
      refine ⟨u, hu, oneCell_of hx hxx.1, ?_⟩
      cases inl
      · exact hx
      · exact isInl_rep hx (by simpa using hxx.2))
  refine Snd.put_ret _ v hrun ?_ h1 h2 (hv _ g rfl (by simp [upd_same]) (by simp [upd_same]) (by simp [upd_same]))
  simp only [hH]

theorem newRow_snd {P : Program} {E : Env} {H : NL ABlk} (hH : E.H = lk H) (hr : HR E) {id : Nat} {elem : TypeId} {size : Nat} {inl : Bool} {rows : List (List AV)} {k : Nat → AV} {c : Sem Value} {C : Array Value} {v : Value} {w' : World}
    (hrun : c.run P E.w = .ok v w') (hsz : w'.heap.size = E.w.heap.size + 1 ∧ w'.os = E.w.os ∧ w'.output = E.w.output ∧ w'.tape = E.w.tape) (hold : ∀ b, b < E.w.heap.size → w'.heap[b]? = E.w.heap[b]?) (hnew : w'.heap[E.w.heap.size]? = some (.cells C elem (0, 0)))
    (hle : rows.length * size ≤ C.size)
    (hc : ∀ (r : Nat) (row : List AV) (j : Nat) (x : AV), rows[r]? = some row → row[j]? = some x → ∃ u, C[r * size + j]? = some u ∧ Rep E x u)
    (hv : ∀ (E' : Env) (g : Nat), E'.w = w' → E'.H id = some { gen := g, kind := 2, elem, size, inl, rows } → E'.φ id = E.w.heap.size → E'.cs id = C.size → Rep E' (k g) v) :
    Snd P E H (newRowA id elem size inl rows k) c := by
  refine Snd.get' ?_
  split
  · rename_i hcond
    obtain ⟨h0, hall⟩ := hcond
    refine newRow_put hH hr hrun hsz hold hnew hle hc hv h0 fun r row hrw => ?_
    have := List.all_eq_true.1 hall row (List.mem_of_getElem? hrw)
    simp only [Bool.and_eq_true, beq_iff_eq, List.all_eq_true] at this
    exact this
  · exact Snd.fail

def boxA (elem : TypeId) (dst : Nat) (x : AV) : AP AV :=
  match x.cellsOf with
  | some cs => newRowA (newId dst) elem cs.length false [cs] (fun g => .ptr (newId dst) g 0 0)
  | none => .fail
def allocA (P : Program) (elem : TypeId) (dst : Nat) : AP AV :=
  match zeroA P elem with
  | some x => boxA elem dst x
  | none => .fail

theorem newVar_snd {P : Program} {E : Env} {H : NL ABlk} (hH : E.H = lk H) (hr : HR E) {elem : TypeId} {dst : Nat} {x : AV} {u : Value} (hx : Rep E x u) {c : Sem Value}
    (hrun : c.run P E.w = .ok (.pointer (some ⟨E.w.heap.size, 0, none⟩)) (E.w.alloc (.cells u.cells elem))) : Snd P E H (boxA elem dst x) c := by
  unfold boxA
  cases hc : x.cellsOf with
  | none => exact Snd.fail
  | some cs =>
    have hl := cellsOf_rep hc hx
    refine newRow_snd hH hr (C := u.cells) hrun ⟨by simp, rfl, rfl, rfl⟩ (fun b hb => heap_alloc_old _ _ _ hb) (heap_alloc_new _ _) ?_ ?_ ?_
    · have := hl.length; simp at this ⊢; omega
    · intro r row j y h1 h2
      cases r with
      | zero =>
        simp only [List.getElem?_cons_zero, Option.some.injEq] at h1
        subst h1
        obtain ⟨w, hw, hy⟩ := hl.get h2
        exact ⟨w, by simpa using hw, hy⟩
      | succ r => simp at h1
    · intro E' g hw hb hφ hcs
      simp only [Rep]
      exact ⟨_, _, hb, Nat.le_refl _, rfl, fun _ => ⟨.inr rfl, by rw [hφ]; simp⟩⟩

theorem box_snd {P : Program} {E : Env} {H : NL ABlk} (hH : E.H = lk H) (hr : HR E) {elem : TypeId} {dst : Nat} {x : AV} {u : Value} (hx : Rep E x u) :
    Snd P E H (boxA elem dst x) (Instr.box elem u) :=
  newVar_snd hH hr hx (by simp [Instr.box, newVar, newRow])
theorem alloc_snd {P : Program} {E : Env} {H : NL ABlk} (hH : E.H = lk H) (hr : HR E) {elem : TypeId} {dst : Nat} :
    Snd P E H (allocA P elem dst) (Instr.alloc elem true (.tuple #[])) := by
  unfold allocA
  cases hz : zeroA P elem with
  | none => exact Snd.fail
  | some x =>
    obtain ⟨u, hu, hx⟩ := zeroA_run hz
    exact newVar_snd hH hr (hx E) (by simp [Instr.alloc, hu, newVar, newRow])
end Go.Abs
