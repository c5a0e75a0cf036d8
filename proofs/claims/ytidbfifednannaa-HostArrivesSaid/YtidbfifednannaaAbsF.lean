/- Appending, abstractly, with what it owes. Conditions: none. -/
import Derived.Test.YtidbfifednannaaAbsE
namespace Go.Abs
open Go

/-- The rows of a source. -/
def rowsA (size : Nat) (x : AV) (k : List (List AV) → AP AV) : AP AV :=
  match x with
  | .nils => k []
  | .list sz rows => if sz = size then k rows else .fail
  | .sl id g off len => .get id fun b => if b.gen = g ∧ (b.kind = 1 ∨ b.kind = 2) ∧ off + len ≤ b.rows.length ∧ b.size = size ∧ b.inl = true then k ((b.rows.drop off).take len) else .fail
  | .psl _ _ _ _ 0 => k []
  | _ => .fail

/-- What the source's value is. -/
structure Src (E : Env) (size : Nat) (rows : List (List AV)) (v : Value) : Prop where
  val : ∃ oa cap, v = .slice oa rows.length cap
  cells : 0 < rows.length → ∃ (a : Addr) (cap : Nat) (news : List Value), v = .slice (some a) rows.length cap ∧ news.length = rows.length * size ∧ (∀ (j : Nat) (u : Value), news[j]? = some u → E.w.cell? (a.add j) = some u) ∧ (∀ u ∈ news, u.oneCell' = true) ∧
    ∀ (r : Nat) (row : List AV) (j : Nat) (x : AV), rows[r]? = some row → row[j]? = some x → ∃ u, news[r * size + j]? = some u ∧ RepI E.w E.imm x u

theorem news_of {E : Env} {rows : List (List AV)} {size : Nat} {a : Addr} (f : ∀ i, i < rows.length * size → ∃ u, E.w.cell? (a.add i) = some u ∧ u.oneCell' = true ∧ ∀ (r : Nat) (row : List AV) (j : Nat) (x : AV), r * size + j = i → rows[r]? = some row → row[j]? = some x → RepI E.w E.imm x u)
    (hl : ∀ (r : Nat) (row : List AV), rows[r]? = some row → row.length = size) :
    ∃ news : List Value, news.length = rows.length * size ∧ (∀ (j : Nat) (u : Value), news[j]? = some u → E.w.cell? (a.add j) = some u) ∧ (∀ u ∈ news, u.oneCell' = true) ∧
    ∀ (r : Nat) (row : List AV) (j : Nat) (x : AV), rows[r]? = some row → row[j]? = some x → ∃ u, news[r * size + j]? = some u ∧ RepI E.w E.imm x u := by
  have hf : ∀ i, ∃ u : Value, i < rows.length * size → E.w.cell? (a.add i) = some u ∧ u.oneCell' = true ∧ ∀ (r : Nat) (row : List AV) (j : Nat) (x : AV), r * size + j = i → rows[r]? = some row → row[j]? = some x → RepI E.w E.imm x u := by
    intro i
    by_cases hi : i < rows.length * size
    · obtain ⟨u, hu⟩ := f i hi; exact ⟨u, fun _ => hu⟩
    · exact ⟨undef, fun h => absurd h hi⟩
  obtain ⟨g, hg⟩ := Classical.axiomOfChoice hf
  refine ⟨(List.range (rows.length * size)).map g, by simp, fun j u hu => ?_, fun u hu => ?_, fun r row j x hr hx => ?_⟩
  · simp only [List.getElem?_map, Option.map_eq_some_iff] at hu
    obtain ⟨i, hi, rfl⟩ := hu
    have hj : j < rows.length * size := by have := (List.getElem?_eq_some_iff.1 hi).1; simpa using this
    rw [List.getElem?_range hj] at hi
    cases hi
    exact (hg j hj).1
  · simp only [List.mem_map, List.mem_range] at hu
    obtain ⟨i, hi, rfl⟩ := hu
    exact (hg i hi).2.1
  · have hrl : r < rows.length := (List.getElem?_eq_some_iff.1 hr).1
    have hj : j < size := by rw [← hl r row hr]; exact (List.getElem?_eq_some_iff.1 hx).1
    have hlt : r * size + j < rows.length * size := mul_lt_block hrl hj
    exact ⟨g (r * size + j), by rw [List.getElem?_map, List.getElem?_range hlt]; rfl, (hg _ hlt).2.2 r row j x rfl hr hx⟩

theorem rowsA_snd {P : Program} {E : Env} {H : NL ABlk} (hH : E.H = lk H) (hr : HR E) {size : Nat} {x : AV} {v : Value} (hx : Rep E x v) {k : List (List AV) → AP AV} {c : Sem Value}
    (h : ∀ rows, (∀ (r : Nat) (row : List AV), rows[r]? = some row → row.length = size) → Src E size rows v → Snd P E H (k rows) c) : Snd P E H (rowsA size x k) c := by
  unfold rowsA
  cases x with
  | nils =>
    simp only [Rep] at hx; subst hx
    exact h [] (by simp) ⟨⟨none, 0, rfl⟩, fun h => by simp at h⟩
  | list sz rows =>
    dsimp only
    split
    · rename_i hs
      subst hs
      simp only [Rep, RepI] at hx
      rcases hx with ⟨rfl, rfl⟩ | ⟨a, cap, rfl, h1, h2, h3, h4⟩
      · exact h [] (by simp) ⟨⟨none, 0, rfl⟩, fun h => by simp at h⟩
      · have hl : ∀ (r : Nat) (row : List AV), rows[r]? = some row → row.length = sz := fun r row hr => (h4.get hr).1
        refine h rows hl ⟨⟨some a, cap, rfl⟩, fun hpos => ?_⟩
        have hne : rows ≠ [] := by intro e; subst e; simp at hpos
        obtain ⟨hsp, him⟩ := h3 hne
        obtain ⟨news, n1, n2, n3, n4⟩ := news_of (E := E) (rows := rows) (size := sz) (a := a) (fun i hi => by
          have hs0 : 0 < sz := by rcases Nat.eq_zero_or_pos sz with e | e; (subst e; simp at hi); exact e
          have hrlt : i / sz < rows.length := Nat.div_lt_of_lt_mul (by rw [Nat.mul_comm]; exact hi)
          obtain ⟨row, hrow⟩ : ∃ row, rows[i / sz]? = some row := ⟨_, List.getElem?_eq_getElem hrlt⟩
          have hg := h4.get hrow
          have hj : i % sz < row.length := by rw [hg.1]; exact Nat.mod_lt _ hs0
          obtain ⟨u, hu, ho, hxu⟩ := hg.2.get (List.getElem?_eq_getElem hj)
          have hdm := Nat.div_add_mod i sz
          have hdm' : i / sz * sz + i % sz = i := by rw [Nat.mul_comm]; exact hdm
          refine ⟨u, by rw [add_add' a _ hsp]; rw [show a.off + i = a.off + i / sz * sz + i % sz from by omega]; exact hu, ho, fun r row' j x e hr hx => ?_⟩
          have hj' : j < sz := by rw [← hl r row' hr]; exact (List.getElem?_eq_some_iff.1 hx).1
          have er : r = i / sz := by rw [← e, Nat.add_comm, Nat.add_mul_div_right _ _ hs0, Nat.div_eq_of_lt hj', Nat.zero_add]
          have ej : j = i % sz := by rw [← e, Nat.add_comm, Nat.add_mul_mod_self_right, Nat.mod_eq_of_lt hj']
          subst er; subst ej
          rw [hrow] at hr; cases hr
          rw [List.getElem?_eq_getElem hj] at hx; cases hx
          exact hxu) hl
        exact ⟨a, cap, news, rfl, n1, n2, n3, n4⟩
    · exact Snd.fail
  | sl id g off len =>
    simp only [Rep] at hx
    obtain ⟨blk, oa, len', cap, hb, hle, rfl, hg⟩ := hx
    refine Snd.get (by rw [← hH]; exact hb) ?_
    split
    · rename_i hc
      obtain ⟨hg1, hk, hoff, rfl, hinl⟩ := hc
      obtain ⟨_, rfl, h1, h2, h3⟩ := hg hg1
      obtain ⟨C, hC, hcs, hsz, hlen, hrl, hcell⟩ := hr.cells hb hk
      have hll : ((blk.rows.drop off).take len').length = len' := by rw [List.length_take, List.length_drop]; omega
      have hget : ∀ (r : Nat) (row : List AV), ((blk.rows.drop off).take len')[r]? = some row → r < len' ∧ blk.rows[off + r]? = some row := by
        intro r row h
        rw [List.getElem?_take] at h
        split at h
        · rw [List.getElem?_drop] at h; exact ⟨by assumption, h⟩
        · cases h
      have hl : ∀ (r : Nat) (row : List AV), ((blk.rows.drop off).take len')[r]? = some row → row.length = blk.size := fun r row h => hrl _ row (hget r row h).2
      refine h _ hl ⟨⟨oa, cap, by rw [hll]⟩, fun hpos => ?_⟩
      rw [hll] at hpos
      obtain ⟨rfl, h4⟩ := h3 (by omega)
      have hcp : 0 < E.cs id := by have : 0 < (off + cap) * blk.size := Nat.mul_pos (by omega) hsz; omega
      obtain ⟨news, n1, n2, n3, n4⟩ := news_of (E := E) (rows := (blk.rows.drop off).take len') (size := blk.size) (a := ⟨E.φ id, off * blk.size, none⟩) (fun i hi => by
        rw [hll] at hi
        have hrlt : i / blk.size < len' := Nat.div_lt_of_lt_mul (by rw [Nat.mul_comm]; exact hi)
        obtain ⟨row, hrow⟩ : ∃ row, ((blk.rows.drop off).take len')[i / blk.size]? = some row := ⟨_, List.getElem?_eq_getElem (by rw [hll]; exact hrlt)⟩
        have hj : i % blk.size < row.length := by rw [hl _ row hrow]; exact Nat.mod_lt _ hsz
        obtain ⟨u, hu, ho, hxu⟩ := hcell _ row _ _ (hget _ row hrow).2 (List.getElem?_eq_getElem hj)
        have hdm' : i / blk.size * blk.size + i % blk.size = i := by rw [Nat.mul_comm]; exact Nat.div_add_mod i blk.size
        refine ⟨u, ?_, ho, fun r row' j x e hr hx => ?_⟩
        · rw [add_mk, cell_of_heap (hC hcp), ← hu]
          congr 1
          rw [Nat.add_mul]; omega
        · have hj' : j < blk.size := by rw [← hl r row' hr]; exact (List.getElem?_eq_some_iff.1 hx).1
          have er : r = i / blk.size := by rw [← e, Nat.add_comm, Nat.add_mul_div_right _ _ hsz, Nat.div_eq_of_lt hj', Nat.zero_add]
          have ej : j = i % blk.size := by rw [← e, Nat.add_comm, Nat.add_mul_mod_self_right, Nat.mod_eq_of_lt hj']
          subst er; subst ej
          rw [hrow] at hr; cases hr
          rw [List.getElem?_eq_getElem hj] at hx; cases hx
          rw [hinl] at hxu
          exact hxu) hl
      exact ⟨_, cap, news, by rw [hll], n1, n2, n3, n4⟩
    · exact Snd.fail
  | psl id g r o len =>
    cases len with
    | zero =>
      simp only [Rep] at hx
      obtain ⟨blk, a, cap, _, _, rfl, _⟩ := hx
      exact h [] (by simp) ⟨⟨_, cap, rfl⟩, fun h => by simp at h⟩
    | succ k => exact Snd.fail
  | _ => exact Snd.fail

theorem HR.regen {E : Env} (hr : HR E) {id : Nat} {blk : ABlk} (hb : E.H id = some blk) (hk : blk.kind = 2) :
    HR ⟨E.w, upd E.H id (some { blk with gen := blk.gen + 1 }), E.φ, E.cs, E.F⟩ ∧ Step E ⟨E.w, upd E.H id (some { blk with gen := blk.gen + 1 }), E.φ, E.cs, E.F⟩ := by
  have hst : Step E ⟨E.w, upd E.H id (some { blk with gen := blk.gen + 1 }), E.φ, E.cs, E.F⟩ := by
    refine ⟨Nat.le_refl _, fun b _ _ => rfl, rfl, fun k b hbk => ?_, fun k b' hbk hkk hck => ?_, Kept.refl _⟩
    · by_cases e : id = k
      · subst e
        rw [hb] at hbk; cases hbk
        exact ⟨{ blk with gen := blk.gen + 1 }, by simp only [upd_same], Nat.le_succ _, fun h => absurd h (by simp)⟩
      · exact ⟨b, by simp [upd_other _ _ _ e, hbk], Nat.le_refl _, fun _ _ => ⟨.inl rfl, rfl, rfl, rfl, rfl⟩⟩
    · left
      by_cases e : id = k
      · subst e; exact ⟨blk, hb, by omega, hck, rfl⟩
      · exact ⟨b', by simpa [upd_other _ _ _ e] using hbk, hkk, hck, rfl⟩
  have hex : ∀ k b, upd E.H id (some { blk with gen := blk.gen + 1 }) k = some b → ∃ b0, E.H k = some b0 ∧ b.kind = b0.kind := by
    intro k b h
    by_cases e : id = k
    · subst e; simp only [upd_same, Option.some.injEq] at h; subst h; exact ⟨blk, hb, rfl⟩
    · exact ⟨b, by simpa [upd_other _ _ _ e] using h, rfl⟩
  refine ⟨⟨fun k b hbk => ?_, fun i j bi bj hi hj ki kj ci cj hne => ?_, fun k b hbk hkk hck => ?_, hr.fb⟩, hst⟩
  · by_cases e : id = k
    · subst e
      simp only [upd_same, Option.some.injEq] at hbk
      subst hbk
      have := BlkOK.mono hst rfl rfl (fun _ _ => rfl) (hr.blk id blk hb)
      obtain ⟨C, c1, c2, c3, c4, c5, c6⟩ := hr.cells hb (.inr hk)
      exact BlkOK.mk_cells (.inr hk) ⟨C, c1, c2, c3, c4, c5, fun r row j x h1 h2 => by
        obtain ⟨u, d1, d2, d3⟩ := c6 r row j x h1 h2
        exact ⟨u, d1, d2, d3.mono hst⟩⟩
    · simp only [upd_other _ _ _ e] at hbk
      exact BlkOK.mono hst rfl rfl (fun _ _ => rfl) (hr.blk k b hbk)
  · obtain ⟨b1, h1, k1⟩ := hex i bi hi
    obtain ⟨b2, h2, k2⟩ := hex j bj hj
    exact hr.inj i j b1 b2 h1 h2 (by omega) (by omega) ci cj hne
  · obtain ⟨b1, h1, k1⟩ := hex k b hbk
    exact hr.nf k b1 h1 (by omega) hck

/-- The first rows (all of them as they are). -/
def firstRows {α : Type} (n : Nat) (l : List α) : List α := if n = l.length then l else l.take n
theorem firstRows_eq {α : Type} (n : Nat) (l : List α) : firstRows n l = l.take n := by
  unfold firstRows
  split
  · rename_i h; rw [h, List.take_length]
  · rfl
@[simp] theorem firstRows_all {α : Type} (l : List α) : firstRows l.length l = l := by simp [firstRows]
@[simp] theorem firstRows_nil {α : Type} (n : Nat) : firstRows n ([] : List α) = [] := by simp [firstRows]
@[simp] theorem firstRows_zero {α : Type} (l : List α) : firstRows 0 l = [] := by rw [firstRows_eq]; rfl
@[simp] theorem firstRows_map {α β : Type} (f : α → β) (l : List α) : firstRows l.length (l.map f) = l.map f := by simp [firstRows]
def appendA (P : Program) (dst : Nat) (t t' : TypeId) (s x : AV) : AP AV :=
  match P.underlying t with
  | some (.slice elem) => match P.info? elem with
    | some i =>
      if t = t' ∧ 0 < i.size ∧ (i.zero.map fun z => z.cells.size) = some i.size then
        rowsA i.size x fun news =>
          match s with
          | .nils => if news.length * i.bytes ≤ 140737488355328 ∧ news.length ≤ maxLen then
              .get (newId dst) fun old => .put (newId dst) { gen := old.gen + 1, kind := 2, elem, size := i.size, inl := true, rows := news } (.ret (.sl (newId dst) (old.gen + 1) 0 news.length))
            else .fail
          | .sl id g 0 len => .get id fun b =>
            if b.gen = g ∧ b.kind = 2 ∧ b.elem = elem ∧ b.size = i.size ∧ b.inl = true ∧ len ≤ b.rows.length ∧ (len + news.length) * i.bytes ≤ 140737488355328 ∧ len + news.length ≤ maxLen then
              .put id { gen := b.gen + 1, kind := 2, elem, size := i.size, inl := true, rows := firstRows len b.rows ++ news } (.ret (.sl id (b.gen + 1) 0 (len + news.length)))
            else .fail
          | _ => .fail
      else .fail
    | none => .fail
  | _ => .fail

theorem run_append_zero {P : Program} {w : World} {t ty e : TypeId} {i : TypeInfo} (ht : P.underlying t = some (.slice e)) (hi : P.info? e = some i) {oa ob : Option Addr} {n cap c : Nat} (hn : n ≤ cap) :
    (Builtin.append_ #[t, t] ty #[.slice oa n cap, .slice ob 0 c]).run P w = .ok (.slice oa n cap) w := by
  cases oa <;> cases ob <;> simp [Builtin.append_, run_underlying' ht, sizeOf, typeInfo, hi, Builtin.lenOf, hn, Builtin.firstCells, loadCells, loadCellsFrom, storeCells]

/-- A fresh row that begins with the cells of 'rows'. -/
theorem grown_env {E : Env} (hr : HR E) {id g : Nat} {elem : TypeId} {size : Nat} {rows : List (List AV)} {olds zs : List Value} {w' : World} {need cap : Nat}
    (hw : w' = E.w.drew.alloc (.cells (olds ++ zs).toArray elem)) (h0 : 0 < size) (hg : ∀ old, E.H id = some old → old.gen < g) (hneed : rows.length = need) (hlo : olds.length = need * size) (hz : zs.length = (cap - need) * size) (hcap : need ≤ cap) (hcm : cap ≤ maxLen)
    (hl : ∀ (r : Nat) (row : List AV), rows[r]? = some row → row.length = size)
    (hc : ∀ (r : Nat) (row : List AV) (j : Nat) (x : AV), rows[r]? = some row → row[j]? = some x → ∃ u, olds[r * size + j]? = some u ∧ u.oneCell' = true ∧ RepI E.w E.imm x u) :
    ∃ E', E'.w = w' ∧ E'.H = upd E.H id (some { gen := g, kind := 2, elem, size, inl := true, rows }) ∧ HR E' ∧ Step E E' ∧ Rep E' (.sl id g 0 need) (.slice (some ⟨E.w.heap.size, 0, none⟩) need cap) := by
  have hsz : (olds ++ zs).toArray.size = cap * size := by
    rw [List.size_toArray, List.length_append, hlo, hz, ← Nat.add_mul]; congr 1; omega
  obtain ⟨h1, h2⟩ := hr.new (id := id) (blk := { gen := g, kind := 2, elem, size, inl := true, rows }) (C := (olds ++ zs).toArray) (w' := w') (by subst hw; exact ⟨by simp, rfl, rfl, rfl⟩) (fun b hb => by subst hw; exact heap_alloc_old E.w.drew _ b hb) (by subst hw; exact heap_alloc_new E.w.drew _) rfl hg h0
    (by rw [hsz]; exact Nat.mul_le_mul_right _ (by simp only; omega)) hl
    (fun r row j x hrw hx => by
      obtain ⟨u, hu, ho, hxu⟩ := hc r row j x hrw hx
      refine ⟨u, ?_, ho, hxu⟩
      rw [List.getElem?_toArray, List.getElem?_append_left (List.getElem?_eq_some_iff.1 hu).1]
      exact hu)
  refine ⟨_, rfl, rfl, h1, h2, ?_⟩
  simp only [Rep, upd_same]
  exact ⟨_, _, _, _, rfl, Nat.le_refl _, rfl, fun _ => ⟨.inr rfl, rfl, hcap, hcm, fun _ => ⟨by simp, by simp only [hsz]; simp⟩⟩⟩

/-- The abstract block shrinks; what led into it leads there no more. -/
theorem HR.shrink {E : Env} (hr : HR E) {id : Nat} {blk : ABlk} (hb : E.H id = some blk) (hk : blk.kind = 2) (n : Nat) :
    HR ⟨E.w, upd E.H id (some { blk with gen := blk.gen + 1, rows := blk.rows.take n }), E.φ, E.cs, E.F⟩ ∧ Step E ⟨E.w, upd E.H id (some { blk with gen := blk.gen + 1, rows := blk.rows.take n }), E.φ, E.cs, E.F⟩ := by
  obtain ⟨C, hC, hcs, hsz, hlen, hrl, hcell⟩ := hr.cells hb (.inr hk)
  rcases Nat.eq_zero_or_pos (E.cs id) with h0 | hcp
  · have hrows : blk.rows = [] := by
      refine List.eq_nil_of_length_eq_zero ?_
      rcases Nat.eq_zero_or_pos blk.rows.length with q | q
      · exact q
      · have := Nat.mul_pos q hsz; omega
    have he : ({ blk with gen := blk.gen + 1, rows := blk.rows.take n } : ABlk) = { blk with gen := blk.gen + 1 } := by rw [hrows]; simp
    rw [he]
    exact hr.regen hb hk
  · exact hr.write (blk' := { blk with gen := blk.gen + 1, rows := blk.rows.take n }) (C := C) (w' := E.w) hb hk hcp ⟨rfl, rfl, rfl, rfl⟩ (fun _ _ => rfl) (hC hcp) hcs hk (Nat.le_succ _) rfl rfl
      (by
        refine Nat.le_trans (Nat.mul_le_mul_right _ ?_) hlen
        show (blk.rows.take n).length ≤ blk.rows.length
        rw [List.length_take]; omega)
      (fun r row h => by
        rw [List.getElem?_take] at h
        split at h
        · exact hrl r row h
        · cases h)
      (fun r row j x h hx => by
        rw [List.getElem?_take] at h
        split at h
        · exact hcell r row j x h hx
        · cases h)
theorem append_snd {P : Program} {E : Env} {H : NL ABlk} (hH : E.H = lk H) (hr : HR E) {dst : Nat} {t t' ty : TypeId} {s x : AV} {vs vx : Value} (hs : Rep E s vs) (hx : Rep E x vx) :
    Snd P E H (appendA P dst t t' s x) (Builtin.append_ #[t, t'] ty #[vs, vx]) := by
  unfold appendA
  split
  · rename_i elem hu
    split
    · rename_i i hi
      split
      · rename_i hc
        obtain ⟨rfl, hsz, hz⟩ := hc
        obtain ⟨z, hz1, hz2⟩ : ∃ z, i.zero = some z ∧ z.cells.size = i.size := by
          cases hzz : i.zero with
          | none => simp [hzz] at hz
          | some z => simp [hzz] at hz; exact ⟨z, rfl, hz⟩
        refine rowsA_snd hH hr hx fun news hl src => ?_
        have zlen : ∀ k, (Builtin.zeroCells z.cells k).toList.length = k * i.size := fun k => by rw [Array.length_toList, size_zeroCells, hz2]
        split
        · -- onto nil
          simp only [Rep] at hs
          subst hs
          split
          · rename_i hb
            obtain ⟨hb1, hb2⟩ := hb
            refine Snd.get' ?_
            generalize hgen : ((lk H (newId dst)).getD {}).gen + 1 = g
            have hg : ∀ old, E.H (newId dst) = some old → old.gen < g := fun old ho => by rw [hH] at ho; simp [ho] at hgen; omega
            rcases Nat.eq_zero_or_pos news.length with hm | hm
            · obtain ⟨oa, cap, hv⟩ := src.val
              rw [hm] at hv
              have hn : news = [] := List.eq_nil_of_length_eq_zero hm
              subst hn
              obtain ⟨h1, h2⟩ := hr.phantom (id := newId dst) (blk := { gen := g, kind := 2, elem, size := i.size, inl := true, rows := [] }) rfl hg hsz rfl
              refine Snd.put_ret _ (.slice none 0 0) ?_ (by rw [hH]) h1 h2 ?_
              · rw [hv]; exact run_append_zero hu hi (Nat.le_refl _)
              · simp only [Rep, upd_same]
                exact ⟨_, none, 0, 0, rfl, Nat.le_refl _, rfl, fun _ => ⟨.inr rfl, rfl, Nat.le_refl _, Nat.zero_le _, fun h => absurd h (by omega)⟩⟩
            · obtain ⟨a, cap, nv, hv, n1, n2, n3, n4⟩ := src.cells hm
              have hrun := run_append_nil (P := P) E.w t ty elem i z hu hi hz1 a news.length cap nv n1 n2 hm (by simp only [maxLen] at hb2; omega) (by omega)
              have hge := grownCap_ge E.w news.length 0 elem
              have hcm := grownCap_le_maxLen E.w news.length 0 elem hb2
              obtain ⟨E', e1, e2, e3, e4, e5⟩ := grown_env hr (id := newId dst) (g := g) (elem := elem) (size := i.size) (rows := news) (olds := nv) (zs := (Builtin.zeroCells z.cells (grownCap E.w news.length 0 elem - news.length)).toList)
                (w' := E.w.drew.alloc (.cells (nv.toArray ++ Builtin.zeroCells z.cells (grownCap E.w news.length 0 elem - news.length)) elem)) (need := news.length) (cap := grownCap E.w news.length 0 elem)
                (by congr 2; apply Array.ext'; simp) hsz hg rfl n1 (zlen _) hge hcm hl (fun r row j x h1 h2 => by
                  obtain ⟨u, hu', hxu⟩ := n4 r row j x h1 h2
                  exact ⟨u, hu', n3 u (List.mem_of_getElem? hu'), hxu⟩)
              refine Snd.put_ret E' _ ?_ (by rw [e2, hH]) e3 e4 e5
              rw [hv, e1]; exact hrun
          · exact Snd.fail
        · -- onto a row of our own
          rename_i id g len
          simp only [Rep] at hs
          obtain ⟨blk, oa, len', cap, hb, hle, rfl, hg⟩ := hs
          refine Snd.get (by rw [← hH]; exact hb) ?_
          split
          · rename_i hc
            obtain ⟨hg1, hk, rfl, hs1, hinl, hln, hb1, hb2⟩ := hc
            obtain ⟨_, rfl, h1, h2, h3⟩ := hg hg1
            obtain ⟨C, hC, hcs, hsz', hlen, hrl, hcell⟩ := hr.cells hb (.inr hk)
            rw [firstRows_eq]
            have hrl' : ∀ (r : Nat) (row : List AV), (blk.rows.take len')[r]? = some row → blk.rows[r]? = some row := fun r row h => by
              rw [List.getElem?_take] at h
              split at h
              · exact h
              · cases h
            have hln' : (blk.rows.take len').length = len' := by rw [List.length_take]; omega
            have hall : ∀ (r : Nat) (row : List AV), (blk.rows.take len' ++ news)[r]? = some row → row.length = i.size := fun r row h => by
              rw [List.getElem?_append] at h
              split at h
              · rw [← hs1]; exact hrl r row (hrl' r row h)
              · exact hl _ row h
            rcases Nat.eq_zero_or_pos news.length with hm | hm
            · obtain ⟨oa', cap', hv⟩ := src.val
              rw [hm] at hv
              have hn : news = [] := List.eq_nil_of_length_eq_zero hm
              subst hn
              obtain ⟨q1, q2⟩ := hr.shrink hb hk len'
              have hblk : ({ gen := blk.gen + 1, kind := 2, elem := blk.elem, size := i.size, inl := true, rows := blk.rows.take len' ++ [] } : ABlk) = { blk with gen := blk.gen + 1, rows := blk.rows.take len' } := by
                rw [List.append_nil, ← hs1, ← hk, ← hinl]
              rw [hblk]
              refine Snd.put_ret _ (.slice oa len' cap) ?_ (by rw [hH]) q1 q2 ?_
              · rw [hv]; exact run_append_zero hu hi h1
              · simp only [Rep, upd_same]
                refine ⟨_, oa, len', cap, rfl, Nat.le_refl _, rfl, fun _ => ⟨.inr hk, by simp, h1, h2, fun hp => ?_⟩⟩
                simpa using h3 hp
            · obtain ⟨a, c, nv, hv, n1, n2, n3, n4⟩ := src.cells hm
              have n4' : ∀ (r : Nat) (row : List AV) (j : Nat) (x : AV), news[r]? = some row → row[j]? = some x → ∃ u, nv[r * i.size + j]? = some u ∧ u.oneCell' = true ∧ RepI E.w E.imm x u := fun r row j x h1 h2 => by
                obtain ⟨u, hu', hxu⟩ := n4 r row j x h1 h2
                exact ⟨u, hu', n3 u (List.mem_of_getElem? hu'), hxu⟩
              -- the cells of the old row
              have holds : ∃ ov : List Value, ov.length = len' * i.size ∧ (0 < cap → ∀ (j : Nat) (u : Value), ov[j]? = some u → E.w.cell? ((⟨E.φ id, 0, none⟩ : Addr).add j) = some u) ∧
                  ∀ (r : Nat) (row : List AV) (j : Nat) (x : AV), (blk.rows.take len')[r]? = some row → row[j]? = some x → ∃ u, ov[r * i.size + j]? = some u ∧ u.oneCell' = true ∧ RepI E.w E.imm x u := by
                refine ⟨C.toList.take (len' * i.size), ?_, fun hp j u hu' => ?_, fun r row j x h1' h2 => ?_⟩
                · rw [List.length_take, Array.length_toList, ← hs1]
                  have := Nat.mul_le_mul_right blk.size hln
                  omega
                · have hcp : 0 < E.cs id := by have := (h3 hp).2; have : 0 < (0 + cap) * blk.size := Nat.mul_pos (by omega) hsz'; omega
                  rw [add_mk, cell_of_heap (hC hcp), Nat.zero_add]
                  rw [List.getElem?_take] at hu'
                  split at hu'
                  · simpa using hu'
                  · cases hu'
                · have h1 := hrl' r row h1'
                  obtain ⟨u, c1, c2, c3⟩ := hcell r row j x h1 h2
                  rw [hinl] at c3
                  have hrlt : r < len' := by rw [← hln']; exact (List.getElem?_eq_some_iff.1 h1').1
                  have hj : j < i.size := by rw [← hs1, ← hrl r row h1]; exact (List.getElem?_eq_some_iff.1 h2).1
                  refine ⟨u, ?_, c2, c3⟩
                  rw [List.getElem?_take, if_pos (mul_lt_block hrlt hj), ← hs1]
                  simpa using c1
              obtain ⟨ov, o1, o2, o3⟩ := holds
              have both : ∀ (r : Nat) (row : List AV) (j : Nat) (x : AV), (blk.rows.take len' ++ news)[r]? = some row → row[j]? = some x → ∃ u, (ov ++ nv)[r * i.size + j]? = some u ∧ u.oneCell' = true ∧ RepI E.w E.imm x u := by
                intro r row j x h1 h2
                rw [List.getElem?_append] at h1
                split at h1
                · obtain ⟨u, p1, p2, p3⟩ := o3 r row j x h1 h2
                  exact ⟨u, by rw [List.getElem?_append_left (List.getElem?_eq_some_iff.1 p1).1]; exact p1, p2, p3⟩
                · rename_i hge
                  obtain ⟨u, p1, p2, p3⟩ := n4' _ row j x h1 h2
                  refine ⟨u, ?_, p2, p3⟩
                  rw [hln'] at p1 hge
                  have hr2 : r * i.size = (r - len') * i.size + len' * i.size := by
                    rw [← Nat.add_mul]; congr 1; omega
                  rw [List.getElem?_append_right (by rw [o1, hr2]; omega), o1, ← p1]
                  congr 1; omega
              by_cases hroom : len' + news.length ≤ cap
              · obtain ⟨rfl, h4⟩ := h3 (by omega)
                have hcp : 0 < E.cs id := by have : 0 < (0 + cap) * blk.size := Nat.mul_pos (by omega) hsz'; omega
                have hfit : len' * i.size + nv.length ≤ C.size := by
                  rw [n1, ← Nat.add_mul, hcs]
                  refine Nat.le_trans (Nat.mul_le_mul_right _ hroom) ?_
                  rw [← hs1]; simpa using h4
                have hrun := run_append_room (P := P) E.w t ty blk.elem i hu hi (E.φ id) len' cap C (hC hcp) a news.length c nv n1 n2 n3 hroom hfit
                have hsp : (C.toList.take (len' * i.size) ++ nv ++ C.toList.drop (len' * i.size + nv.length)) = splice C.toList (len' * i.size) nv := rfl
                rw [hsp] at hrun
                have hfit' : len' * i.size + nv.length ≤ C.toList.length := by simpa using hfit
                obtain ⟨q1, q2⟩ := hr.write (blk' := { gen := blk.gen + 1, kind := 2, elem := blk.elem, size := i.size, inl := true, rows := blk.rows.take len' ++ news }) (C := (splice C.toList (len' * i.size) nv).toArray) (w' := E.w.setRow (E.φ id) (splice C.toList (len' * i.size) nv).toArray)
                  hb hk hcp ⟨by simp, rfl, rfl, rfl⟩ (fun b hne => setRow_other _ _ _ _ hne) (setRow_heap _ _ _ _ _ _ (hC hcp)) (by rw [List.size_toArray, splice_length hfit', Array.length_toList, hcs]) rfl (by simp) hs1.symm rfl
                  (by rw [List.size_toArray, splice_length hfit', Array.length_toList]
                      show (blk.rows.take len' ++ news).length * blk.size ≤ C.size
                      rw [List.length_append, hln', hcs]
                      refine Nat.le_trans (Nat.mul_le_mul_right _ hroom) ?_
                      simpa using h4)
                  (fun r row h => by rw [hs1]; exact hall r row h)
                  (fun r row j x h1 h2 => by
                    rw [List.getElem?_toArray, splice_get hfit', hs1]
                    rw [List.getElem?_append] at h1
                    split at h1
                    · rename_i hlt
                      rw [hln'] at hlt
                      obtain ⟨u, p1, p2, p3⟩ := hcell r row j x (hrl' r row h1) h2
                      rw [hinl] at p3
                      have hj : j < i.size := by rw [← hs1, ← hrl r row (hrl' r row h1)]; exact (List.getElem?_eq_some_iff.1 h2).1
                      rw [if_pos (mul_lt_block (by omega) hj)]
                      exact ⟨u, by rw [← hs1]; simpa using p1, p2, p3⟩
                    · rename_i hge
                      obtain ⟨u, p1, p2, p3⟩ := n4' _ row j x h1 h2
                      rw [hln'] at p1 hge
                      have hr2 : r * i.size = (r - len') * i.size + len' * i.size := by
                        rw [← Nat.add_mul]; congr 1; omega
                      have hlt2 : (r - len') * i.size + j < nv.length := (List.getElem?_eq_some_iff.1 p1).1
                      rw [if_neg (by omega), if_pos (by omega)]
                      exact ⟨u, by rw [← p1]; congr 1; omega, p2, p3⟩)
                refine Snd.put_ret _ (.slice (some ⟨E.φ id, 0 * blk.size, none⟩) (len' + news.length) cap) ?_ (by rw [hH]) q1 q2 ?_
                · rw [hv]; simpa using hrun
                · simp only [Rep, upd_same]
                  exact ⟨_, _, _, cap, rfl, Nat.le_refl _, rfl, fun _ => ⟨.inr rfl, rfl, hroom, h2, fun _ => ⟨by simp, by rw [← hs1]; simpa using h4⟩⟩⟩
              · -- a new row
                have hgg : ∀ old, E.H id = some old → old.gen < blk.gen + 1 := fun old ho => by rw [hb] at ho; cases ho; omega
                have hge := grownCap_ge E.w (len' + news.length) cap blk.elem
                have hcm := grownCap_le_maxLen E.w (len' + news.length) cap blk.elem hb2
                rcases Nat.eq_zero_or_pos cap with hc0 | hc0
                · have hl0 : len' = 0 := by omega
                  subst hc0; subst hl0
                  have ho0 : ov = [] := List.eq_nil_of_length_eq_zero (by simpa using o1)
                  subst ho0
                  obtain ⟨E', e1, e2, e3, e4, e5⟩ := grown_env hr (id := id) (g := blk.gen + 1) (elem := blk.elem) (size := i.size) (rows := blk.rows.take 0 ++ news) (olds := [] ++ nv) (zs := (Builtin.zeroCells z.cells (grownCap E.w (0 + news.length) 0 blk.elem - (0 + news.length))).toList)
                    (w' := E.w.drew.alloc (.cells (nv.toArray ++ Builtin.zeroCells z.cells (grownCap E.w (0 + news.length) 0 blk.elem - (0 + news.length))) blk.elem)) (need := 0 + news.length) (cap := grownCap E.w (0 + news.length) 0 blk.elem)
                    (by congr 2; apply Array.ext'; simp) hsz hgg (by rw [List.length_append, hln']) (by simp [n1]) (zlen _) hge hcm hall both
                  refine Snd.put_ret E' _ ?_ (by rw [e2, hH]) e3 e4 e5
                  rw [hv, e1]
                  cases oa with
                  | none =>
                    have hrun := run_append_nil (P := P) E.w t ty blk.elem i z hu hi hz1 a news.length c nv n1 n2 hm (by simp only [maxLen] at hb2; omega) (by simp only [Nat.zero_add] at hb1; omega)
                    simpa using hrun
                  | some ad =>
                    have hrun := run_append_grow (P := P) E.w t ty blk.elem i z hu hi hz1 ad 0 0 [] (by simp) (by simp) a news.length c nv n1 n2 (by omega) (by simp only [maxLen] at hb2; omega) (growslice_fits (by omega) hb1)
                    simpa using hrun
                · obtain ⟨rfl, h4⟩ := h3 hc0
                  obtain ⟨E', e1, e2, e3, e4, e5⟩ := grown_env hr (id := id) (g := blk.gen + 1) (elem := blk.elem) (size := i.size) (rows := blk.rows.take len' ++ news) (olds := ov ++ nv) (zs := (Builtin.zeroCells z.cells (grownCap E.w (len' + news.length) cap blk.elem - (len' + news.length))).toList)
                    (w' := E.w.drew.alloc (.cells (ov.toArray ++ nv.toArray ++ Builtin.zeroCells z.cells (grownCap E.w (len' + news.length) cap blk.elem - (len' + news.length))) blk.elem)) (need := len' + news.length) (cap := grownCap E.w (len' + news.length) cap blk.elem)
                    (by congr 2; apply Array.ext'; simp) hsz hgg (by rw [List.length_append, hln']) (by rw [List.length_append, o1, n1, Nat.add_mul]) (zlen _) hge hcm hall both
                  refine Snd.put_ret E' _ ?_ (by rw [e2, hH]) e3 e4 e5
                  rw [hv, e1]
                  have hrun := run_append_grow (P := P) E.w t ty blk.elem i z hu hi hz1 ⟨E.φ id, 0, none⟩ len' cap ov o1 (o2 hc0) a news.length c nv n1 n2 (by omega) (by simp only [maxLen] at hb2; omega) (growslice_fits (by omega) hb1)
                  simpa using hrun
          · exact Snd.fail
        · exact Snd.fail
      · exact Snd.fail
    · exact Snd.fail
  · exact Snd.fail
end Go.Abs
