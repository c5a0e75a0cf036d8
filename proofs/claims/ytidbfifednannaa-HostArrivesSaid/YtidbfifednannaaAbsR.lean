/- Handing blocks to a callee and taking them back: the stores on both sides. Conditions: none. -/
import Derived.Test.YtidbfifednannaaAbsJ
namespace Go.Abs
open Go
set_option linter.unusedVariables false
set_option linter.unusedSimpArgs false

def renB (f : Nat → Nat → Option (Nat × Nat)) (g : Nat) (b : ABlk) : ABlk :=
  { b with gen := g, rows := if b.inl = true ∧ b.kind ≠ 3 then b.rows else b.rows.map (renL f) }
theorem renL_length {f : Nat → Nat → Option (Nat × Nat)} : ∀ (l : List AV), (renL f l).length = l.length
  | [] => rfl
  | _ :: r => by simp [renL, renL_length r]
theorem renL_get {f : Nat → Nat → Option (Nat × Nat)} : ∀ (l : List AV) (j : Nat), (renL f l)[j]? = (l[j]?).map (·.ren f)
  | [], j => by simp [renL]
  | x :: r, 0 => by simp [renL]
  | x :: r, j + 1 => by simp [renL, renL_get r j]

theorem BlkOK.ren {f : Nat → Nat → Option (Nat × Nat)} {E E' : Env} (hf : RenOK f E E') {i i' g' : Nat} {b : ABlk} (hφ : E'.φ i' = E.φ i) (hcs : E'.cs i' = E.cs i) (h : BlkOK E i b) : BlkOK E' i' (renB f g' b) := by
  unfold BlkOK at h ⊢
  have hk : (renB f g' b).kind = b.kind := rfl
  rw [hk, hφ, hcs, hf.w]
  have cells : (hc : b.kind = 1 ∨ b.kind = 2) → (∃ C : Array Value, (0 < E.cs i → E.w.heap[E.φ i]? = some (.cells C b.elem (0, 0))) ∧ C.size = E.cs i ∧ 0 < b.size ∧ b.rows.length * b.size ≤ C.size ∧
      (∀ (r : Nat) (row : List AV), b.rows[r]? = some row → row.length = b.size) ∧
      ∀ (r : Nat) (row : List AV) (j : Nat) (x : AV), b.rows[r]? = some row → row[j]? = some x → ∃ u, C[r * b.size + j]? = some u ∧ u.oneCell' = true ∧ CellR E b.inl x u) →
      (∃ C : Array Value, (0 < E.cs i → E.w.heap[E.φ i]? = some (.cells C b.elem (0, 0))) ∧ C.size = E.cs i ∧ 0 < b.size ∧ (renB f g' b).rows.length * b.size ≤ C.size ∧
      (∀ (r : Nat) (row : List AV), (renB f g' b).rows[r]? = some row → row.length = b.size) ∧
      ∀ (r : Nat) (row : List AV) (j : Nat) (x : AV), (renB f g' b).rows[r]? = some row → row[j]? = some x → ∃ u, C[r * b.size + j]? = some u ∧ u.oneCell' = true ∧ CellR E' b.inl x u) := by
    rintro hc ⟨C, a1, a2, a3, a4, a5, a6⟩
    by_cases hi : b.inl = true
    · have hr : (renB f g' b).rows = b.rows := if_pos ⟨hi, by omega⟩
      rw [hr]
      refine ⟨C, a1, a2, a3, a4, a5, fun r row j x h1 h2 => ?_⟩
      obtain ⟨u, b1, b2, b3⟩ := a6 r row j x h1 h2
      refine ⟨u, b1, b2, ?_⟩
      rw [hi] at b3 ⊢
      exact RepI.mono (fun b hb => ⟨hf.imm b hb, by rw [hf.w]⟩) _ _ b3
    · have hr : (renB f g' b).rows = b.rows.map (renL f) := if_neg (fun hh => hi hh.1)
      have hi' : b.inl = false := by simpa using hi
      rw [hr]
      refine ⟨C, a1, a2, a3, by simpa using a4, fun r row h1 => ?_, fun r row j x h1 h2 => ?_⟩
      · simp only [List.getElem?_map, Option.map_eq_some_iff] at h1
        obtain ⟨row0, h1, rfl⟩ := h1
        rw [renL_length]
        exact a5 r row0 h1
      · simp only [List.getElem?_map, Option.map_eq_some_iff] at h1
        obtain ⟨row0, h1, rfl⟩ := h1
        simp only [renL_get, Option.map_eq_some_iff] at h2
        obtain ⟨x0, h2, rfl⟩ := h2
        obtain ⟨u, b1, b2, b3⟩ := a6 r row0 j x0 h1 h2
        refine ⟨u, b1, b2, ?_⟩
        rw [hi'] at b3 ⊢
        exact ren_rep hf _ _ b3
  split <;> rename_i hkk <;> simp only [hkk] at h
  · trivial
  · exact cells (.inl hkk) h
  · exact cells (.inr hkk) h
  · obtain ⟨hp, es, cl, a1, a2, a2', a3, a4⟩ := h
    have hr : (renB f g' b).rows = b.rows.map (renL f) := if_neg (fun hh => hh.2 hkk)
    rw [hr]
    refine ⟨hp, es, cl, a1, a2, a2', by simpa using a3, fun r row h1 => ?_⟩
    simp only [List.getElem?_map, Option.map_eq_some_iff] at h1
    obtain ⟨row0, h1, rfl⟩ := h1
    obtain ⟨k, v, e, b1, b2, b3, b4⟩ := a4 r row0 h1
    subst b1
    exact ⟨k.ren f, v.ren f, e, by simp [renL], b2, ren_rep hf _ _ b3, ren_rep hf _ _ b4⟩

/-! ### What is handed over -/
def fF (L : List (Nat × ABlk)) (i g : Nat) : Option (Nat × Nat) :=
  match L.findIdx? (fun p => p.1 == i) with
  | some k => match L[k]? with
    | some p => if p.2.gen = g then some (k, 0) else none
    | none => none
  | none => none
def handB (L : List (Nat × ABlk)) : List ABlk := L.map fun p => renB (fF L) 0 p.2
def keepB (E : Env) (L : List (Nat × ABlk)) (b : Nat) : Prop := E.F b ∨ (b < E.w.heap.size ∧ ∃ id blk, E.H id = some blk ∧ 2 ≤ blk.kind ∧ 0 < E.cs id ∧ E.φ id = b ∧ ∀ p ∈ L, p.1 ≠ id)
def envB (E : Env) (L : List (Nat × ABlk)) : Env :=
  ⟨E.w, fun j => (handB L)[j]?, fun j => E.φ ((L[j]?).map (·.1) |>.getD 0), fun j => E.cs ((L[j]?).map (·.1) |>.getD 0), keepB E L⟩

theorem fF_some {L : List (Nat × ABlk)} {i g i' g' : Nat} (h : fF L i g = some (i', g')) : ∃ b, L[i']? = some (i, b) ∧ b.gen = g ∧ g' = 0 := by
  unfold fF at h
  split at h
  · rename_i k hk
    split at h
    · rename_i p hp
      split at h
      · rename_i hg
        simp only [Option.some.injEq, Prod.mk.injEq] at h
        obtain ⟨rfl, rfl⟩ := h
        rw [List.findIdx?_eq_some_iff_getElem] at hk
        obtain ⟨hlt, h1, _⟩ := hk
        have : L[k] = p := by
          have := List.getElem?_eq_getElem hlt
          rw [this] at hp
          exact Option.some.inj hp
        rw [this] at h1
        simp only [beq_iff_eq] at h1
        refine ⟨p.2, ?_, hg, rfl⟩
        rw [hp, ← h1]
      · cases h
    · cases h
  · cases h

theorem handB_get {L : List (Nat × ABlk)} {j : Nat} {b : ABlk} (h : (handB L)[j]? = some b) : ∃ id b0, L[j]? = some (id, b0) ∧ b = renB (fF L) 0 b0 := by
  simp only [handB, List.getElem?_map, Option.map_eq_some_iff] at h
  obtain ⟨p, h1, h2⟩ := h
  exact ⟨p.1, p.2, h1, h2.symm⟩

theorem hand_over {E : Env} {H : NL ABlk} (hH : E.H = lk H) (hr : HR E) {L : List (Nat × ABlk)} (hnd : (L.map (·.1)).Nodup) (hL : ∀ p ∈ L, lk H p.1 = some p.2 ∧ p.2.kind ≠ 0) :
    HR (envB E L) ∧ RenOK (fF L) E (envB E L) := by
  have hφ : ∀ (j id : Nat) (b : ABlk), L[j]? = some (id, b) → (envB E L).φ j = E.φ id ∧ (envB E L).cs j = E.cs id ∧ E.H id = some b ∧ b.kind ≠ 0 := by
    intro j id b h
    have := hL _ (List.mem_of_getElem? h)
    exact ⟨by simp [envB, h], by simp [envB, h], by rw [hH]; exact this.1, this.2⟩
  have hinj : ∀ (i j id : Nat) (b b' : ABlk), L[i]? = some (id, b) → L[j]? = some (id, b') → i = j := by
    intro i j id b b' h1 h2
    have hi := (List.getElem?_eq_some_iff.1 h1).1
    exact (List.getElem?_inj (by simpa using hi) hnd).1 (by simp [h1, h2])
  have himm : ∀ b, E.imm b → (envB E L).imm b := by
    intro b hb
    refine ⟨hb.1, fun hk => ?_, fun j blk hj hk hc he => ?_⟩
    · rcases hk with hk | ⟨_, id, blk, h1, h2, h3, h4, _⟩
      · exact hb.2.1 hk
      · exact hb.2.2 id blk h1 h2 h3 h4
    · obtain ⟨id, b0, h1, rfl⟩ := handB_get hj
      obtain ⟨e1, e2, e3, e4⟩ := hφ j id b0 h1
      exact hb.2.2 id b0 e3 hk (by rw [← e2]; exact hc) (by rw [← e1]; exact he)
  have hren : RenOK (fF L) E (envB E L) := by
    refine ⟨rfl, himm, fun i g i' g' he blk hb hg => ?_, fun i g i' g' he => ?_⟩
    · obtain ⟨b, h1, h2, rfl⟩ := fF_some he
      obtain ⟨e1, e2, e3, e4⟩ := hφ i' i b h1
      rw [e3] at hb; cases hb
      exact ⟨renB (fF L) 0 blk, by simp [envB, handB, h1], rfl, rfl, rfl, e1, e2⟩
    · obtain ⟨b, h1, h2, rfl⟩ := fF_some he
      obtain ⟨e1, e2, e3, e4⟩ := hφ i' i b h1
      exact ⟨b, e3, h2⟩
  refine ⟨⟨fun j b hb => ?_, fun i j bi bj hi hj ki kj ci cj hne => ?_, fun j b hb hk hc => ?_, fun b hb => ?_⟩, hren⟩
  · obtain ⟨id, b0, h1, rfl⟩ := handB_get hb
    obtain ⟨e1, e2, e3, e4⟩ := hφ j id b0 h1
    exact BlkOK.ren hren e1 e2 (hr.blk id b0 e3)
  · obtain ⟨id1, b1, h1, rfl⟩ := handB_get hi
    obtain ⟨id2, b2, h2, rfl⟩ := handB_get hj
    obtain ⟨e1, e2, e3, e4⟩ := hφ i id1 b1 h1
    obtain ⟨f1, f2, f3, f4⟩ := hφ j id2 b2 h2
    rw [e1, f1]
    refine hr.inj id1 id2 b1 b2 e3 f3 e4 f4 (by rw [← e2]; exact ci) (by rw [← f2]; exact cj) fun e => hne ?_
    subst e
    exact hinj i j id1 b1 b2 h1 h2
  · obtain ⟨id, b0, h1, rfl⟩ := handB_get hb
    obtain ⟨e1, e2, e3, e4⟩ := hφ j id b0 h1
    have hc' : 0 < E.cs id := by rw [← e2]; exact hc
    obtain ⟨g1, g2⟩ := hr.nf id b0 e3 e4 hc'
    rw [e1]
    refine ⟨g1, fun hk => ?_⟩
    rcases hk with hk | ⟨_, id', blk, k1, k2, k3, k4, k5⟩
    · exact g2 hk
    · refine hr.inj id' id blk b0 k1 e3 (by omega) e4 k3 hc' (fun e => ?_) k4
      exact k5 _ (List.mem_of_getElem? h1) e.symm
  · rcases hb with hb | ⟨hb, _⟩
    · exact hr.fb b hb
    · exact hb

/-! ### What comes back -/
def backF (ids : List (Nat × Nat)) (B : List ABlk) (i g : Nat) : Option (Nat × Nat) := match B[i]? with
  | some b => if g = b.gen then ids[i]? else none
  | none => none
def puts (H : NL ABlk) : List (Nat × ABlk) → NL ABlk
  | [] => H
  | (i, b) :: r => puts (st H i b) r
theorem lk_puts_other : ∀ (l : List (Nat × ABlk)) (H : NL ABlk) (id : Nat), (∀ p ∈ l, p.1 ≠ id) → lk (puts H l) id = lk H id
  | [], _, _, _ => rfl
  | (i, b) :: r, H, id, h => by
    simp only [puts]
    rw [lk_puts_other r _ id (fun p hp => h p (by simp [hp])), lk_st, if_neg (h (i, b) (by simp))]
theorem lk_puts : ∀ (l : List (Nat × ABlk)) (H : NL ABlk) (j id : Nat) (b : ABlk), (l.map (·.1)).Nodup → l[j]? = some (id, b) → lk (puts H l) id = some b
  | [], _, _, _, _, _, h => by simp at h
  | (i, b0) :: r, H, 0, id, b, hnd, h => by
    simp only [List.getElem?_cons_zero, Option.some.injEq, Prod.mk.injEq] at h
    obtain ⟨rfl, rfl⟩ := h
    simp only [puts]
    simp only [List.map_cons, List.nodup_cons, List.mem_map, not_exists, not_and] at hnd
    rw [lk_puts_other r _ i (fun p hp e => hnd.1 p hp e), lk_st, if_pos rfl]
  | (i, b0) :: r, H, j + 1, id, b, hnd, h => by
    simp only [List.getElem?_cons_succ] at h
    simp only [puts]
    simp only [List.map_cons, List.nodup_cons] at hnd
    exact lk_puts r _ j id b hnd.2 h
def backL (ids : List (Nat × Nat)) (B : List ABlk) : List (Nat × ABlk) := (ids.zip B).map fun p => (p.1.1, renB (backF ids B) p.1.2 p.2)
theorem backL_get {ids : List (Nat × Nat)} {B : List ABlk} {j id g : Nat} {b : ABlk} (h1 : ids[j]? = some (id, g)) (h2 : B[j]? = some b) : (backL ids B)[j]? = some (id, renB (backF ids B) g b) := by
  simp only [backL, List.getElem?_map]
  rw [List.getElem?_zip_eq_some (z := ((id, g), b)) |>.2 ⟨h1, h2⟩]
  rfl
theorem backL_fst {ids : List (Nat × Nat)} {B : List ABlk} (h : ids.length = B.length) : (backL ids B).map (·.1) = ids.map (·.1) := by
  have h1 : ((ids.zip B).map Prod.fst) = ids := List.map_fst_zip (by omega)
  calc (backL ids B).map (·.1) = ((ids.zip B).map Prod.fst).map (·.1) := by simp [backL, List.map_map, Function.comp_def]
    _ = ids.map (·.1) := by rw [h1]

theorem adoptB {E Ec : Env} {H : NL ABlk} (hH : E.H = lk H) (hr : HR E) {L : List (Nat × ABlk)} (hnd : (L.map (·.1)).Nodup) (hL : ∀ p ∈ L, lk H p.1 = some p.2 ∧ p.2.kind ≠ 0)
    {B : List ABlk} (hB : Ec.H = fun i => B[i]?) (hc : HR Ec) (hs : Step (envB E L) Ec) (hmv : ∀ (j : Nat) (b : ABlk), j < L.length → B[j]? = some b → b.gen = 0 ∨ b.gen = 1 ∧ b.kind = 2) (hgn : ∀ (j : Nat) (b : ABlk), L.length ≤ j → B[j]? = some b → b.gen = 0)
    {ids : List (Nat × Nat)} (hil : ids.length = B.length) (hin : (ids.map (·.1)).Nodup) (hlen : L.length ≤ ids.length)
    (hold : ∀ (j id g : Nat) (bj : ABlk), j < L.length → ids[j]? = some (id, g) → B[j]? = some bj → ∃ b, L[j]? = some (id, b) ∧ g = b.gen + bj.gen)
    (hnew : ∀ (j id g : Nat), L.length ≤ j → ids[j]? = some (id, g) → (∀ p ∈ L, p.1 ≠ id) ∧ g = genOf H id) (hk2 : ∀ (j : Nat) (b : ABlk), L.length ≤ j → B[j]? = some b → 2 ≤ b.kind) :
    ∃ E', E'.w = Ec.w ∧ E'.H = lk (puts H (backL ids B)) ∧ HR E' ∧ Step E E' ∧ RenOK (backF ids B) Ec E' := by
  have hφ : ∀ (j id : Nat) (b : ABlk), L[j]? = some (id, b) → (envB E L).φ j = E.φ id ∧ (envB E L).cs j = E.cs id ∧ E.H id = some b ∧ b.kind ≠ 0 ∧ (envB E L).H j = some (renB (fF L) 0 b) := by
    intro j id b h
    have := hL _ (List.mem_of_getElem? h)
    exact ⟨by simp [envB, h], by simp [envB, h], by rw [hH]; exact this.1, this.2, by simp [envB, handB, h]⟩
  let pos : Nat → Option Nat := fun id => ids.findIdx? (fun p => p.1 == id)
  have pos_some : ∀ id j, pos id = some j → ∃ g b, ids[j]? = some (id, g) ∧ B[j]? = some b := by
    intro id j h
    simp only [pos, List.findIdx?_eq_some_iff_getElem] at h
    obtain ⟨hlt, h1, _⟩ := h
    simp only [beq_iff_eq] at h1
    exact ⟨(ids[j]).2, B[j]'(by omega), by rw [List.getElem?_eq_getElem hlt, ← h1], List.getElem?_eq_getElem (by omega)⟩
  have pos_none : ∀ id, pos id = none → ∀ p ∈ ids, p.1 ≠ id := by
    intro id h p hp e
    simp only [pos, List.findIdx?_eq_none_iff] at h
    have := h p hp
    simp [e] at this
  have pos_of : ∀ (j id g : Nat), ids[j]? = some (id, g) → pos id = some j := by
    intro j id g h
    cases hp : pos id with
    | none => exact absurd rfl (pos_none id hp _ (List.mem_of_getElem? h))
    | some k =>
      obtain ⟨g', b', h1, _⟩ := pos_some id k hp
      have hk := (List.getElem?_eq_some_iff.1 h1).1
      have := (List.getElem?_inj (by simpa using hk) hin).1 (show (ids.map (·.1))[k]? = (ids.map (·.1))[j]? by simp [h, h1])
      rw [this]
  have hlk_in : ∀ (j id g : Nat) (b : ABlk), ids[j]? = some (id, g) → B[j]? = some b → lk (puts H (backL ids B)) id = some (renB (backF ids B) g b) := fun j id g b h1 h2 =>
    lk_puts _ H j id _ (by rw [backL_fst hil]; exact hin) (backL_get h1 h2)
  have hlk_out : ∀ id, pos id = none → lk (puts H (backL ids B)) id = lk H id := fun id h =>
    lk_puts_other _ H id fun p hp e => by
      have : p.1 ∈ (backL ids B).map (·.1) := List.mem_map.2 ⟨p, hp, rfl⟩
      rw [backL_fst hil] at this
      obtain ⟨q, hq, he⟩ := List.mem_map.1 this
      exact pos_none id h q hq (he.trans e)
  have hLout : ∀ id, pos id = none → ∀ p ∈ L, p.1 ≠ id := by
    intro id h p hp e
    obtain ⟨j, hj, he⟩ := List.mem_iff_getElem.1 hp
    have hj' : j < ids.length := by omega
    obtain ⟨b, hb, _⟩ := hold j ids[j].1 ids[j].2 (B[j]'(by omega)) hj (by rw [List.getElem?_eq_getElem hj']) (List.getElem?_eq_getElem (by omega))
    rw [List.getElem?_eq_getElem hj, he] at hb
    simp only [Option.some.injEq] at hb
    exact pos_none id h ids[j] (List.getElem_mem hj') (by rw [← e, hb])
  let φ' : Nat → Nat := fun id => match pos id with
    | some j => Ec.φ j
    | none => E.φ id
  let cs' : Nat → Nat := fun id => match pos id with
    | some j => Ec.cs j
    | none => E.cs id
  have hin' : ∀ id j, pos id = some j → φ' id = Ec.φ j ∧ cs' id = Ec.cs j := fun id j h => by simp [φ', cs', h]
  have hout' : ∀ id, pos id = none → φ' id = E.φ id ∧ cs' id = E.cs id := fun id h => by simp [φ', cs', h]
  have hsz : E.w.heap.size ≤ Ec.w.heap.size := hs.size
  -- what lies outside of what was handed over stays
  have hkeep : ∀ b, b < E.w.heap.size → (∀ p ∈ L, 2 ≤ p.2.kind → 0 < E.cs p.1 → E.φ p.1 ≠ b) → Ec.w.heap[b]? = E.w.heap[b]? := by
    intro b hb hn
    refine hs.old b hb fun j blk hj hk hcs he => ?_
    obtain ⟨id, b0, h1, rfl⟩ := handB_get hj
    obtain ⟨e1, e2, _⟩ := hφ j id b0 h1
    exact hn (id, b0) (List.mem_of_getElem? h1) hk (by simpa only [← e2] using hcs) (by simpa only [← e1] using he)
  have hcur : ∀ (j id g : Nat) (b : ABlk), j < L.length → ids[j]? = some (id, g) → B[j]? = some b → b.gen = 0 → ∃ b0, L[j]? = some (id, b0) ∧ b0.gen = g ∧ E.H id = some b0 ∧ b0.kind ≠ 0 ∧
      (b.kind = b0.kind ∨ b0.kind = 2 ∧ b.kind = 1) ∧ b.size = b0.size ∧ b.elem = b0.elem ∧ Ec.φ j = E.φ id ∧ Ec.cs j = E.cs id := by
    intro j id g b hj h1 h2 hz
    obtain ⟨b0, h3, h4⟩ := hold j id g b hj h1 h2
    rw [hz, Nat.add_zero] at h4
    replace h4 := h4.symm
    obtain ⟨e1, e2, e3, e4, e5⟩ := hφ j id b0 h3
    obtain ⟨b', q1, q2, q3⟩ := hs.ref j _ e5
    rw [hB] at q1
    simp only at q1
    rw [h2] at q1; cases q1
    obtain ⟨k1, k2, k3, k4, k5⟩ := q3 hz e4
    exact ⟨b0, h3, h4, e3, e4, k1, k2, k3, k4.trans e1, k5.trans e2⟩
  -- a block that took another one's place
  have hmov : ∀ (j id g : Nat) (b : ABlk), j < L.length → ids[j]? = some (id, g) → B[j]? = some b → b.gen = 1 → ∃ b0, L[j]? = some (id, b0) ∧ g = b0.gen + 1 ∧ E.H id = some b0 ∧ b0.kind ≠ 0 ∧
      (2 ≤ b.kind → 0 < Ec.cs j → (2 ≤ b0.kind ∧ 0 < E.cs id ∧ Ec.φ j = E.φ id) ∨ E.w.heap.size ≤ Ec.φ j) := by
    intro j id g b hj h1 h2 hz
    obtain ⟨b0, h3, h4⟩ := hold j id g b hj h1 h2
    rw [hz] at h4
    obtain ⟨e1, e2, e3, e4, e5⟩ := hφ j id b0 h3
    refine ⟨b0, h3, h4, e3, e4, fun hk hcs => ?_⟩
    rcases hs.live j b (by rw [hB]; exact h2) hk hcs with ⟨blk, hb, f1, f2, f3⟩ | hge
    · rw [e5] at hb
      simp only [Option.some.injEq] at hb
      subst hb
      exact .inl ⟨f1, by rw [← e2]; exact f2, f3.trans e1⟩
    · exact .inr hge
  have hfresh : ∀ (j : Nat) (b : ABlk), L.length ≤ j → B[j]? = some b → 2 ≤ b.kind → 0 < Ec.cs j → E.w.heap.size ≤ Ec.φ j := by
    intro j b hj h2 hk hcs
    rcases hs.live j b (by rw [hB]; exact h2) hk hcs with ⟨blk, hb, _⟩ | hge
    · obtain ⟨id, b0, h1, _⟩ := handB_get hb
      have := (List.getElem?_eq_some_iff.1 h1).1
      omega
    · exact hge
  have hst : Step E ⟨Ec.w, lk (puts H (backL ids B)), φ', cs', E.F⟩ := by
    refine ⟨hsz, fun b hb hn => hkeep b hb fun p hp hk hcs he => hn p.1 p.2 (by rw [hH]; exact (hL p hp).1) hk hcs he, rfl, fun id blk hb => ?_, fun id blk' hb hk hcs => ?_, hs.kept⟩
    · cases hp : pos id with
      | none =>
        obtain ⟨e1, e2⟩ := hout' id hp
        exact ⟨blk, by simp only; rw [hlk_out id hp, ← hH]; exact hb, Nat.le_refl _, fun _ _ => ⟨.inl rfl, rfl, rfl, e1, e2⟩⟩
      | some j =>
        obtain ⟨g, b, h1, h2⟩ := pos_some id j hp
        obtain ⟨e1, e2⟩ := hin' id j hp
        refine ⟨_, hlk_in j id g b h1 h2, ?_, ?_⟩
        · by_cases hj : j < L.length
          · rcases hmv j b hj h2 with hz | ⟨hz, _⟩
            · obtain ⟨b0, k1, k2, k3, _⟩ := hcur j id g b hj h1 h2 hz
              rw [hb] at k3; cases k3
              show blk.gen ≤ g
              omega
            · obtain ⟨b0, k1, k2, k3, _⟩ := hmov j id g b hj h1 h2 hz
              rw [hb] at k3; cases k3
              show blk.gen ≤ g
              omega
          · obtain ⟨_, hg⟩ := hnew j id g (by omega) h1
            show blk.gen ≤ g
            have : genOf H id = blk.gen + 1 := by simp [genOf, ← hH, hb]
            omega
        · intro hg _
          have hg' : g = blk.gen := hg
          by_cases hj : j < L.length
          · rcases hmv j b hj h2 with hz | ⟨hz, _⟩
            · obtain ⟨b0, k1, k2, k3, k4, k5, k6, k7, k8, k9⟩ := hcur j id g b hj h1 h2 hz
              rw [hb] at k3; cases k3
              exact ⟨k5, k6, k7, e1.trans k8, e2.trans k9⟩
            · obtain ⟨b0, k1, k2, k3, _⟩ := hmov j id g b hj h1 h2 hz
              rw [hb] at k3; cases k3
              omega
          · obtain ⟨_, hgg⟩ := hnew j id g (by omega) h1
            have : genOf H id = blk.gen + 1 := by simp [genOf, ← hH, hb]
            omega
    · cases hp : pos id with
      | none =>
        obtain ⟨e1, e2⟩ := hout' id hp
        simp only at hb hcs
        rw [hlk_out id hp, ← hH] at hb
        exact .inl ⟨blk', hb, hk, by rw [← e2]; exact hcs, e1⟩
      | some j =>
        obtain ⟨g, b, h1, h2⟩ := pos_some id j hp
        obtain ⟨e1, e2⟩ := hin' id j hp
        simp only at hb hcs
        rw [hlk_in j id g b h1 h2] at hb
        simp only [Option.some.injEq] at hb
        subst hb
        have hk' : 2 ≤ b.kind := hk
        by_cases hj : j < L.length
        · rcases hmv j b hj h2 with hz | ⟨hz, _⟩
          · obtain ⟨b0, k1, k2, k3, k4, k5, k6, k7, k8, k9⟩ := hcur j id g b hj h1 h2 hz
            exact .inl ⟨b0, k3, by omega, by rw [← k9, ← e2]; exact hcs, e1.trans k8⟩
          · obtain ⟨b0, k1, k2, k3, k4, k5⟩ := hmov j id g b hj h1 h2 hz
            rcases k5 hk' (by rw [← e2]; exact hcs) with ⟨c1, c2, c3⟩ | hge
            · exact .inl ⟨b0, k3, c1, c2, e1.trans c3⟩
            · right
              show E.w.heap.size ≤ φ' id
              rw [e1]; exact hge
        · right
          show E.w.heap.size ≤ φ' id
          rw [e1]
          exact hfresh j b (by omega) h2 hk' (by rw [← e2]; exact hcs)
  have himm : ∀ b, Ec.imm b → (Env.mk Ec.w (lk (puts H (backL ids B))) φ' cs' E.F).imm b := by
    intro b hb
    have hF : ¬ keepB E L b := by have := hb.2.1; rw [hs.fo] at this; exact this
    refine ⟨hb.1, fun hf => hF (.inl hf), fun id blk hbk hk hcs he => ?_⟩
    cases hp : pos id with
    | none =>
      obtain ⟨e1, e2⟩ := hout' id hp
      simp only at hbk hcs he
      rw [hlk_out id hp, ← hH] at hbk
      rw [e2] at hcs
      rw [e1] at he
      refine hF (.inr ⟨?_, id, blk, hbk, hk, hcs, he, hLout id hp⟩)
      have := (hr.nf id blk hbk (by omega) hcs).1
      omega
    | some j =>
      obtain ⟨g, b1, h1, h2⟩ := pos_some id j hp
      obtain ⟨e1, e2⟩ := hin' id j hp
      simp only at hbk hcs he
      rw [hlk_in j id g b1 h1 h2] at hbk
      simp only [Option.some.injEq] at hbk
      subst hbk
      exact hb.2.2 j b1 (by rw [hB]; exact h2) hk (by rw [← e2]; exact hcs) (by rw [← e1]; exact he)
  have hren : RenOK (backF ids B) Ec ⟨Ec.w, lk (puts H (backL ids B)), φ', cs', E.F⟩ := by
    have key : ∀ i g i' g', backF ids B i g = some (i', g') → ∃ b, B[i]? = some b ∧ g = b.gen ∧ ids[i]? = some (i', g') := by
      intro i g i' g' he
      unfold backF at he
      split at he
      · rename_i b hb
        split at he
        · exact ⟨b, hb, by assumption, he⟩
        · cases he
      · cases he
    refine ⟨rfl, himm, fun i g i' g' he blk hb hg => ?_, fun i g i' g' he => ?_⟩
    · obtain ⟨_, _, _, h1⟩ := key i g i' g' he
      rw [hB] at hb
      obtain ⟨e1, e2⟩ := hin' i' i (pos_of i i' g' h1)
      exact ⟨_, hlk_in i i' g' blk h1 hb, rfl, rfl, rfl, e1, e2⟩
    · obtain ⟨b, hb, hg, h1⟩ := key i g i' g' he
      exact ⟨b, by rw [hB]; exact hb, hg.symm⟩
  refine ⟨⟨Ec.w, lk (puts H (backL ids B)), φ', cs', E.F⟩, rfl, rfl, ⟨fun id b hb => ?_, fun i j bi bj hi hj ki kj ci cj hne => ?_, fun id b hb hk hcs => ?_, fun b hf => Nat.lt_of_lt_of_le (hr.fb b hf) hsz⟩, hst, hren⟩
  · cases hp : pos id with
    | none =>
      obtain ⟨e1, e2⟩ := hout' id hp
      simp only at hb
      rw [hlk_out id hp, ← hH] at hb
      refine BlkOK.mono hst e1 e2 (fun hz hcs => hkeep _ (hr.nf id b hb hz hcs).1 fun p hp' hk' hcs' he => ?_) (hr.blk id b hb)
      exact hr.inj p.1 id p.2 b (by rw [hH]; exact (hL p hp').1) hb (hL p hp').2 hz hcs' hcs (hLout id hp p hp') he
    | some j =>
      obtain ⟨g, b1, h1, h2⟩ := pos_some id j hp
      obtain ⟨e1, e2⟩ := hin' id j hp
      simp only at hb
      rw [hlk_in j id g b1 h1 h2] at hb
      simp only [Option.some.injEq] at hb
      subst hb
      exact BlkOK.ren hren e1 e2 (hc.blk j b1 (by rw [hB]; exact h2))
  · simp only at hi hj ci cj ⊢
    have far : ∀ (i j : Nat) (bi bj : ABlk) (m : Nat), pos i = some m → pos j = none → lk (puts H (backL ids B)) i = some bi → lk (puts H (backL ids B)) j = some bj → bi.kind ≠ 0 → bj.kind ≠ 0 → 0 < cs' i → 0 < cs' j → φ' i ≠ φ' j := by
      intro i j bi bj m pi pj hi hj ki kj ci cj
      obtain ⟨g, b1, h1, h2⟩ := pos_some i m pi
      obtain ⟨e1, e2⟩ := hin' i m pi
      obtain ⟨f1, f2⟩ := hout' j pj
      rw [hlk_in m i g b1 h1 h2] at hi
      simp only [Option.some.injEq] at hi
      subst hi
      rw [hlk_out j pj, ← hH] at hj
      rw [f2] at cj
      rw [e2] at ci
      rw [e1, f1]
      intro he
      by_cases hm : m < L.length
      · rcases hmv m b1 hm h2 with hz | ⟨hz, hz2⟩
        · obtain ⟨b0, k1, k2, k3, k4, k5, k6, k7, k8, k9⟩ := hcur m i g b1 hm h1 h2 hz
          exact hr.inj i j b0 bj k3 hj k4 kj (by rw [← k9]; exact ci) cj (fun e => by subst e; rw [pi] at pj; cases pj) (by rw [← k8]; exact he)
        · obtain ⟨b0, k1, k2, k3, k4, k5⟩ := hmov m i g b1 hm h1 h2 hz
          rcases k5 (by omega) ci with ⟨c1, c2, c3⟩ | hge
          · exact hr.inj i j b0 bj k3 hj k4 kj c2 cj (fun e => by subst e; rw [pi] at pj; cases pj) (by rw [← c3]; exact he)
          · have hlt := (hr.nf j bj hj kj cj).1
            omega
      · have hlt := (hr.nf j bj hj kj cj).1
        have := hfresh m b1 (by omega) h2 (hk2 m b1 (by omega) h2) ci
        omega
    cases pi : pos i with
    | none =>
      cases pj : pos j with
      | none =>
        obtain ⟨e1, e2⟩ := hout' i pi
        obtain ⟨f1, f2⟩ := hout' j pj
        rw [hlk_out i pi, ← hH] at hi
        rw [hlk_out j pj, ← hH] at hj
        rw [e1, f1]
        exact hr.inj i j bi bj hi hj ki kj (by rw [← e2]; exact ci) (by rw [← f2]; exact cj) hne
      | some m => exact fun he => far j i bj bi m pj pi hj hi kj ki cj ci he.symm
    | some m =>
      cases pj : pos j with
      | none => exact far i j bi bj m pi pj hi hj ki kj ci cj
      | some n =>
        obtain ⟨g, b1, h1, h2⟩ := pos_some i m pi
        obtain ⟨g', b2, h3, h4⟩ := pos_some j n pj
        obtain ⟨e1, e2⟩ := hin' i m pi
        obtain ⟨f1, f2⟩ := hin' j n pj
        rw [hlk_in m i g b1 h1 h2] at hi
        rw [hlk_in n j g' b2 h3 h4] at hj
        simp only [Option.some.injEq] at hi hj
        subst hi
        subst hj
        rw [e1, f1]
        refine hc.inj m n b1 b2 (by rw [hB]; exact h2) (by rw [hB]; exact h4) ki kj (by rw [← e2]; exact ci) (by rw [← f2]; exact cj) fun e => hne ?_
        subst e
        rw [h1] at h3
        simp only [Option.some.injEq, Prod.mk.injEq] at h3
        exact h3.1
  · cases hp : pos id with
    | none =>
      obtain ⟨e1, e2⟩ := hout' id hp
      simp only at hb hcs ⊢
      rw [hlk_out id hp, ← hH] at hb
      have := hr.nf id b hb hk (by rw [← e2]; exact hcs)
      rw [e1]
      exact ⟨by omega, this.2⟩
    | some j =>
      obtain ⟨g, b1, h1, h2⟩ := pos_some id j hp
      obtain ⟨e1, e2⟩ := hin' id j hp
      simp only at hb hcs ⊢
      rw [hlk_in j id g b1 h1 h2] at hb
      simp only [Option.some.injEq] at hb
      subst hb
      have := hc.nf j b1 (by rw [hB]; exact h2) hk (by rw [← e2]; exact hcs)
      rw [e1]
      refine ⟨this.1, fun hf => this.2 ?_⟩
      rw [hs.fo]
      exact .inl hf
end Go.Abs
