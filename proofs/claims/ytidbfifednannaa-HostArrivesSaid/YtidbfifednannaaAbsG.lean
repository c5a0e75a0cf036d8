/- Building structs and slices, cutting slices, comparing: abstractly, with what each owes. Conditions: none. -/
import Derived.Test.YtidbfifednannaaAbsF
namespace Go.Abs
open Go
set_option linter.unusedVariables false
set_option linter.unusedSimpArgs false

/-! ### Composite values -/
def fillA (place : Nat → Option (Nat × Nat)) : List AV → List (Nat × AV) → Option (List AV)
  | cells, [] => some cells
  | cells, (i, x) :: rest => match place i with
    | some (off, size) => match x.cellsOf with
      | some cs => if cs.length = size ∧ off + cs.length ≤ cells.length then fillA place (splice cells off cs) rest else none
      | none => none
    | none => none

theorem RepL.splice {E : Env} {xs ys : List AV} {vs us : List Value} {p : Nat} (h : RepL E xs vs) (h' : RepL E ys us) (hp : p + ys.length ≤ xs.length) : RepL E (splice xs p ys) (splice vs p us) := by
  have l1 := h.length
  have l2 := h'.length
  refine RepL.of_get ?_ fun i x hx => ?_
  · rw [splice_length (by omega), splice_length hp, l1]
  · rw [splice_get hp] at hx
    rw [splice_get (by omega), l2]
    split
    · rename_i q; rw [if_pos q] at hx; exact h.get hx
    · rename_i q
      rw [if_neg q] at hx
      split
      · rename_i q2; rw [if_pos q2] at hx; exact h'.get hx
      · rename_i q2; rw [if_neg q2] at hx; exact h.get hx

theorem foldl_put (cs : List Value) (off : Nat) : ∀ (k : Nat) (cells : Array Value), off + k + cs.length ≤ cells.size →
    ((cs.zipIdx k).foldl (fun (a : Array Value) (p : Value × Nat) => a.setIfInBounds (off + p.2) p.1) cells).toList = splice cells.toList (off + k) cs := by
  induction cs with
  | nil => intro k cells h; simp [splice]
  | cons v r ih =>
    intro k cells h
    simp only [List.length_cons] at h
    rw [List.zipIdx_cons, List.foldl_cons, ih (k + 1) _ (by rw [Array.size_setIfInBounds]; omega)]
    apply List.ext_getElem?
    intro i
    have hs : (cells.setIfInBounds (off + k) v).toList = cells.toList.set (off + k) v := by simp
    rw [hs, splice_get (by simp; omega), splice_get (by simp only [List.length_cons, Array.length_toList]; omega)]
    by_cases h1 : i < off + k
    · rw [if_pos (by omega), if_pos h1, List.getElem?_set_ne (by omega)]
    · by_cases h2 : i = off + k
      · subst h2
        rw [if_pos (by omega), if_neg (by omega), if_pos (by simp only [List.length_cons]; omega), List.getElem?_set_self (by rw [Array.length_toList]; omega)]
        simp
      · rw [if_neg (by omega), if_neg h1]
        by_cases h3 : i < off + (k + 1) + r.length
        · rw [if_pos h3, if_pos (by simp only [List.length_cons]; omega), show i - (off + k) = (i - (off + (k + 1))) + 1 from by omega, List.getElem?_cons_succ]
        · rw [if_neg h3, if_neg (by simp only [List.length_cons]; omega), List.getElem?_set_ne (by omega)]

theorem fill_rep {E : Env} {place : Nat → Option (Nat × Nat)} : ∀ {parts : List (Nat × AV)} {vparts : List (Nat × Value)} {cells out : List AV} {vcells : Array Value},
    parts.length = vparts.length → (∀ (k i : Nat) (x : AV), parts[k]? = some (i, x) → ∃ v, vparts[k]? = some (i, v) ∧ Rep E x v) → RepL E cells vcells.toList → fillA place cells parts = some out →
    ∃ vout, Instr.fill place vcells vparts = some vout ∧ RepL E out vout.toList
  | [], [], cells, out, vcells, _, _, h, ho => by
    simp only [fillA, Option.some.injEq] at ho; subst ho
    exact ⟨vcells, rfl, h⟩
  | [], _ :: _, _, _, _, hl, _, _, _ => by simp at hl
  | _ :: _, [], _, _, _, hl, _, _, _ => by simp at hl
  | (i, x) :: rest, (j, v) :: vrest, cells, out, vcells, hl, hp, h, ho => by
    obtain ⟨v', hv', hx⟩ := hp 0 i x (by simp)
    simp only [List.getElem?_cons_zero, Option.some.injEq, Prod.mk.injEq] at hv'
    obtain ⟨rfl, rfl⟩ := hv'
    simp only [fillA] at ho
    cases hpl : place j with
    | none => simp [hpl] at ho
    | some os =>
      obtain ⟨off, size⟩ := os
      cases hc : x.cellsOf with
      | none => simp [hpl, hc] at ho
      | some cs =>
        simp only [hpl, hc] at ho
        split at ho
        · rename_i hcond
          have hxl := cellsOf_rep hc hx
          have hsz : v.cells.size = cs.length := by have := hxl.length; simpa using this
          have hvl : vcells.size = cells.length := by have := h.length; simpa using this
          have hsp := h.splice hxl hcond.2
          have hfold := foldl_put v.cells.toList off 0 vcells (by simp [hsz, hvl]; omega)
          have harr : v.cells.zipIdx.foldl (fun (a : Array Value) (p : Value × Nat) => a.setIfInBounds (off + p.2) p.1) vcells = (v.cells.toList.zipIdx 0).foldl (fun (a : Array Value) (p : Value × Nat) => a.setIfInBounds (off + p.2) p.1) vcells := by
            rw [← Array.foldl_toList, Array.toList_zipIdx]
          obtain ⟨vout, h1, h2⟩ := fill_rep (parts := rest) (vparts := vrest) (out := out) (vcells := (v.cells.toList.zipIdx 0).foldl (fun (a : Array Value) (p : Value × Nat) => a.setIfInBounds (off + p.2) p.1) vcells) (by simpa using hl)
            (fun k i' x' hk => by simpa using hp (k + 1) i' x' (by simpa using hk)) (by rw [hfold]; simpa using hsp) ho
          refine ⟨vout, ?_, h2⟩
          have e1 : v.cells.size = size := by omega
          have e2 : ¬ (v.cells.size ≠ size || decide (off + v.cells.size > vcells.size)) = true := by simp [e1]; omega
          simp only [Instr.fill, hpl]
          rw [if_neg e2]
          simp only [harr]
          exact h1
        · cases ho

theorem run_mapM_list {P : Program} {w : World} {α β : Type} (g : α → Sem β) (f : α → β) : ∀ l : List α, (∀ x ∈ l, (g x).run P w = .ok (f x) w) → (l.mapM g).run P w = .ok (l.map f) w
  | [], _ => by simp
  | x :: r, h => by
    rw [List.mapM_cons]
    simp only [Sem.run_bind, h x (by simp), Result.andThen_ok, run_mapM_list g f r (fun y hy => h y (by simp [hy])), Sem.run_pure, List.map_cons]
theorem run_mapM_array {P : Program} {w : World} {α β : Type} (g : α → Sem β) (f : α → β) (l : Array α) (h : ∀ x ∈ l.toList, (g x).run P w = .ok (f x) w) : (l.mapM g).run P w = .ok (l.map f) w := by
  have hl := run_mapM_list (P := P) (w := w) g f l.toList h
  rw [Array.mapM_eq_mapM_toList, Sem.run_map, hl, Result.andThen_ok]
  congr 1
  apply Array.ext'
  simp

def placesA (P : Program) (fields : Array Field) : Nat → Option (Nat × Nat) := fun i => match fields[i]? with
  | some f => (szOf P f.type).map fun s => (f.offset, s)
  | none => none
def buildA (P : Program) (t : TypeId) (parts : List (Nat × AV)) : AP AV :=
  match zeroA P t, P.underlying t with
  | some (.agg z), some (.struct fields) =>
    if fields.toList.all (fun f => (szOf P f.type).isSome) then
      match fillA (placesA P fields) z parts with
      | some cells => .ret (.agg cells)
      | none => .fail
    else .fail
  | some (.agg z), some (.array _ elem) => match szOf P elem with
    | some s => match fillA (fun i => some (i * s, s)) z parts with
      | some cells => .ret (.agg cells)
      | none => .fail
    | none => .fail
  | _, _ => .fail

theorem build_snd {P : Program} {E : Env} {H : NL ABlk} (hH : E.H = lk H) (hr : HR E) {t : TypeId} {parts : List (Nat × AV)} {vparts : Array (Nat × Value)}
    (hl : parts.length = vparts.toList.length) (hp : ∀ (k i : Nat) (x : AV), parts[k]? = some (i, x) → ∃ v, vparts.toList[k]? = some (i, v) ∧ Rep E x v) :
    Snd P E H (buildA P t parts) (Instr.build t vparts) := by
  unfold buildA
  split
  · rename_i z fields hz hu
    split
    · rename_i hall
      cases hf : fillA (placesA P fields) z parts with
      | none => exact Snd.fail
      | some cells =>
        obtain ⟨zv, hzr, hzx⟩ := zeroA_run hz
        have hz0 := hzx E
        simp only [Rep] at hz0
        obtain ⟨zc, rfl, hzl⟩ := hz0
        obtain ⟨vout, h1, h2⟩ := fill_rep hl hp hzl hf
        refine Snd.ret hH hr (v := .agg vout) ?_ (by simp only [Rep]; exact ⟨_, rfl, h2⟩)
        have hmap : (fields.mapM fun f => do pure (f.offset, ← sizeOf f.type) : Sem (Array (Nat × Nat))).run P E.w = .ok (fields.map fun f => (f.offset, (szOf P f.type).getD 0)) E.w :=
          run_mapM_array _ _ _ fun f hf => by
            have := List.all_eq_true.1 hall f hf
            obtain ⟨s, hs⟩ := Option.isSome_iff_exists.1 this
            simp [run_sizeOf' hs, hs]
        have hpl : (fun i => (fields.map fun f => (f.offset, (szOf P f.type).getD 0))[i]?) = placesA P fields := by
          funext i
          simp only [placesA, Array.getElem?_map]
          cases hfi : fields[i]? with
          | none => rfl
          | some f =>
            have hm : f ∈ fields.toList := Array.mem_toList_iff.2 (Array.mem_of_getElem? hfi)
            have := List.all_eq_true.1 hall f hm
            obtain ⟨s, hs⟩ := Option.isSome_iff_exists.1 this
            simp [hs]
        simp only [Instr.build, Sem.run_bind, hzr, Result.andThen_ok, run_underlying' hu, hmap, Value.cells]
        rw [hpl, h1]
        simp
    · exact Snd.fail
  · rename_i z n elem hz hu
    cases hs : szOf P elem with
    | none => exact Snd.fail
    | some s =>
      dsimp only
      cases hf : fillA (fun i => some (i * s, s)) z parts with
      | none => exact Snd.fail
      | some cells =>
        obtain ⟨zv, hzr, hzx⟩ := zeroA_run hz
        have hz0 := hzx E
        simp only [Rep] at hz0
        obtain ⟨zc, rfl, hzl⟩ := hz0
        obtain ⟨vout, h1, h2⟩ := fill_rep hl hp hzl hf
        refine Snd.ret hH hr (v := .agg vout) ?_ (by simp only [Rep]; exact ⟨_, rfl, h2⟩)
        simp only [Instr.build, Sem.run_bind, hzr, Result.andThen_ok, run_underlying' hu, run_sizeOf' hs, Value.cells]
        rw [h1]
        simp
  · exact Snd.fail

/-! ### Slices made -/
def chunks (size n : Nat) (flat : List AV) : List (List AV) := (List.range n).map fun r => (flat.drop (r * size)).take size
theorem chunks_get {size n : Nat} {flat : List AV} {r : Nat} {row : List AV} (h : (chunks size n flat)[r]? = some row) : r < n ∧ row = (flat.drop (r * size)).take size := by
  simp only [chunks, List.getElem?_map, Option.map_eq_some_iff] at h
  obtain ⟨i, hi, rfl⟩ := h
  have hlt : r < n := by have := (List.getElem?_eq_some_iff.1 hi).1; simpa using this
  rw [List.getElem?_range hlt] at hi
  cases hi
  exact ⟨hlt, rfl⟩
def zerosA (z : List AV) (n : Nat) : List AV := (List.range n).map fun i => z.getD (i % z.length) .any

def frzP : List (Nat × AV) → (List (Nat × AV) → AP AV) → AP AV
  | [], k => k []
  | (i, x) :: r, k => frzV x fun x' => frzP r fun r' => k ((i, x') :: r')
theorem frzP_snd {P : Program} {c : Sem Value} : ∀ {xs : List (Nat × AV)} {E : Env} {H : NL ABlk} (_ : E.H = lk H) (_ : HR E) {vs : List (Nat × Value)} (_ : xs.length = vs.length) (_ : ∀ (k i : Nat) (x : AV), xs[k]? = some (i, x) → ∃ v, vs[k]? = some (i, v) ∧ Rep E x v) {k : List (Nat × AV) → AP AV}
    (_ : ∀ E1 H1 xs', E1.w = E.w → E1.H = lk H1 → HR E1 → Step E E1 → xs'.length = xs.length → (∀ (k i : Nat) (x : AV), xs'[k]? = some (i, x) → ∃ v, vs[k]? = some (i, v) ∧ Rep E1 x v) → Snd P E1 H1 (k xs') c), Snd P E H (frzP xs k) c
  | [], E, H, hH, hr, vs, hl, hx, k, h => h E H [] rfl hH hr (Step.refl E) rfl (fun k i x h => by simp at h)
  | (i, x) :: r, E, H, hH, hr, [], hl, hx, k, h => by simp at hl
  | (i, x) :: r, E, H, hH, hr, (j, v) :: vs, hl, hx, k, h => by
    obtain ⟨v', hv', hx0⟩ := hx 0 i x (by simp)
    simp only [List.getElem?_cons_zero, Option.some.injEq, Prod.mk.injEq] at hv'
    obtain ⟨rfl, rfl⟩ := hv'
    refine frzV_snd hH hr hx0 fun E1 H1 x' e1 e2 e3 e4 e5 => ?_
    refine frzP_snd (vs := vs) e2 e3 (by simpa using hl) (fun k i y hy => by
      obtain ⟨u, hu, hyu⟩ := hx (k + 1) i y (by simpa using hy)
      exact ⟨u, by simpa using hu, Rep.mono e4 _ _ hyu⟩) fun E2 H2 r' f1 f2 f3 f4 f5 f6 => ?_
    refine h E2 H2 ((j, x') :: r') (f1.trans e1) f2 f3 (e4.trans f4) (by simp [f5]) (fun k i y hy => ?_)
    cases k with
    | zero =>
      simp only [List.getElem?_cons_zero, Option.some.injEq, Prod.mk.injEq] at hy
      obtain ⟨rfl, rfl⟩ := hy
      exact ⟨v, by simp, Rep.mono f4 _ _ e5.rep⟩
    | succ k => simpa using f6 k i y (by simpa using hy)

/-- The rows of parts that stand in order and fill their places. -/
def rowsOf (s : Nat) : Nat → List (Nat × AV) → Option (List (List AV))
  | _, [] => some []
  | k, (i, x) :: r => if i = k then match x.cellsOf with
    | some cs => if cs.length = s then match rowsOf s (k + 1) r with
      | some rows => some (cs :: rows)
      | none => none
      else none
    | none => none
    else none
theorem splice_mid {pre rest cs : List AV} (h : cs.length ≤ rest.length) : splice (pre ++ rest) pre.length cs = (pre ++ cs) ++ rest.drop cs.length := by
  unfold splice
  rw [List.take_left' rfl, List.drop_append, List.drop_of_length_le (by omega), List.nil_append]
  congr 2
  omega
theorem fill_rows {s : Nat} : ∀ {parts : List (Nat × AV)} {k : Nat} {rows : List (List AV)} {pre rest : List AV}, rowsOf s k parts = some rows → pre.length = k * s → rest.length = rows.length * s →
    fillA (fun i => some (i * s, s)) (pre ++ rest) parts = some (pre ++ rows.flatten) ∧ ∀ row ∈ rows, row.length = s
  | [], k, rows, pre, rest, h, _, h2 => by
    simp only [rowsOf, Option.some.injEq] at h
    subst h
    have : rest = [] := List.eq_nil_of_length_eq_zero (by simpa using h2)
    subst this
    simp [fillA]
  | (i, x) :: r, k, rows, pre, rest, h, h1, h2 => by
    simp only [rowsOf] at h
    split at h
    · rename_i e
      subst e
      split at h
      · rename_i cs hcs
        split at h
        · rename_i hl
          split at h
          · rename_i rows' hr
            simp only [Option.some.injEq] at h
            subst h
            have hrl : rest.length = rows'.length * s + s := by rw [h2, List.length_cons, Nat.add_mul, Nat.one_mul]
            have hc : cs.length = s ∧ i * s + cs.length ≤ (pre ++ rest).length := ⟨hl, by rw [List.length_append]; omega⟩
            have hsp : splice (pre ++ rest) (i * s) cs = (pre ++ cs) ++ rest.drop cs.length := by rw [← h1]; exact splice_mid (by omega)
            obtain ⟨g1, g2⟩ := fill_rows (pre := pre ++ cs) (rest := rest.drop cs.length) hr (by rw [List.length_append, Nat.add_mul]; omega) (by rw [List.length_drop]; omega)
            refine ⟨?_, fun row hrow => ?_⟩
            · simp only [fillA, hcs]
              rw [if_pos hc, hsp, g1]
              simp
            · rcases List.mem_cons.1 hrow with rfl | hrow
              · exact hl
              · exact g2 row hrow
          · cases h
        · cases h
      · cases h
    · cases h
theorem chunks_rows {s : Nat} : ∀ (rows : List (List AV)), (∀ row ∈ rows, row.length = s) → chunks s rows.length rows.flatten = rows
  | [], _ => rfl
  | row :: rows, h => by
    have h0 := h row (by simp)
    have ih := chunks_rows rows fun r hr => h r (by simp [hr])
    unfold chunks at ih ⊢
    rw [List.length_cons, List.range_succ_eq_map, List.map_cons, List.map_map]
    congr 1
    · simp [← h0]
    · refine Eq.trans (List.map_congr_left fun r _ => ?_) ih
      simp only [Function.comp_def, Nat.succ_eq_add_one, List.flatten_cons]
      rw [Nat.add_mul, Nat.one_mul, Nat.add_comm (r * s) s, ← List.drop_drop]
      congr 2
      rw [← h0, List.drop_left' rfl]
def sliceRows (s len : Nat) (z : List AV) (parts : List (Nat × AV)) : Option (List (List AV)) :=
  match rowsOf s 0 parts with
  | some rows => if rows.length = len then some rows else (fillA (fun i => some (i * s, s)) (zerosA z (len * s)) parts).map (chunks s len)
  | none => (fillA (fun i => some (i * s, s)) (zerosA z (len * s)) parts).map (chunks s len)
theorem sliceRows_eq (s len : Nat) (z : List AV) (parts : List (Nat × AV)) : sliceRows s len z parts = (fillA (fun i => some (i * s, s)) (zerosA z (len * s)) parts).map (chunks s len) := by
  unfold sliceRows
  split
  · rename_i rows h
    split
    · rename_i hl
      obtain ⟨g1, g2⟩ := fill_rows (pre := []) (rest := zerosA z (len * s)) h (by simp) (by simp [zerosA, hl])
      rw [List.nil_append] at g1
      rw [g1, Option.map_some, List.nil_append, ← hl, chunks_rows rows g2]
    · rfl
  · rfl
def buildSliceA (P : Program) (dst : Nat) (t : TypeId) (len : Nat) (parts : List (Nat × AV)) : AP AV :=
  frzP parts fun parts => match P.underlying t with
  | some (.slice elem) => match szOf P elem, (zeroA P elem).bind AV.cellsOf with
    | some s, some z => if 0 < s ∧ z.length = s ∧ len * s ≤ 2 ^ 24 ∧ len ≤ maxLen then
        match sliceRows s len z parts with
        | some rows => newRowA (newId dst) elem s true rows (fun g => .sl (newId dst) g 0 len)
        | none => .fail
      else .fail
    | _, _ => .fail
  | _ => .fail

theorem fillA_length {place : Nat → Option (Nat × Nat)} : ∀ {parts : List (Nat × AV)} {cells out : List AV}, fillA place cells parts = some out → out.length = cells.length
  | [], _, _, h => by simp only [fillA, Option.some.injEq] at h; rw [h]
  | (i, x) :: r, cells, out, h => by
    simp only [fillA] at h
    split at h
    · split at h
      · split at h
        · rename_i hc
          rw [fillA_length h, splice_length hc.2]
        · cases h
      · cases h
    · cases h

theorem zeros_rep {E : Env} {z : List AV} {zv : Array Value} (hz : RepL E z zv.toList) (h0 : 0 < z.length) (n : Nat) : RepL E (zerosA z n) ((Array.range n).map (zv[· % zv.size]!)).toList := by
  have hl : zv.size = z.length := by have := hz.length; simpa using this
  refine RepL.of_get (by simp [zerosA]) fun i x hx => ?_
  simp only [zerosA, List.getElem?_map, Option.map_eq_some_iff] at hx
  obtain ⟨j, hj, rfl⟩ := hx
  have hlt : i < n := by have := (List.getElem?_eq_some_iff.1 hj).1; simpa using this
  rw [List.getElem?_range hlt] at hj; cases hj
  have hm : i % z.length < z.length := Nat.mod_lt _ h0
  obtain ⟨v, hv, hx⟩ := hz.get (List.getElem?_eq_getElem hm)
  refine ⟨v, ?_, by rw [List.getD_eq_getElem?_getD, List.getElem?_eq_getElem hm]; exact hx⟩
  have hv' : zv[i % z.length]? = some v := by simpa using hv
  have hb : zv[i % zv.size]! = v := by
    rw [hl, getElem!_def, hv']
  simp [hlt, hb]

theorem row_of_flat {E : Env} {flat : List AV} {C : Array Value} {s n : Nat} (h : RepL E flat C.toList) (_hl : flat.length = n * s) :
    ∀ (r : Nat) (row : List AV) (j : Nat) (x : AV), (chunks s n flat)[r]? = some row → row[j]? = some x → ∃ u, C[r * s + j]? = some u ∧ Rep E x u := by
  intro r row j x hr hx
  obtain ⟨hrn, rfl⟩ := chunks_get hr
  rw [List.getElem?_take] at hx
  split at hx
  · rw [List.getElem?_drop] at hx
    obtain ⟨u, hu, hxu⟩ := h.get hx
    exact ⟨u, by simpa using hu, hxu⟩
  · cases hx

theorem buildSlice_snd {P : Program} {E : Env} {H : NL ABlk} (hH : E.H = lk H) (hr : HR E) {dst : Nat} {t : TypeId} {len : Nat} {parts : List (Nat × AV)} {vparts : Array (Nat × Value)}
    (hl : parts.length = vparts.toList.length) (hp : ∀ (k i : Nat) (x : AV), parts[k]? = some (i, x) → ∃ v, vparts.toList[k]? = some (i, v) ∧ Rep E x v) :
    Snd P E H (buildSliceA P dst t len parts) (Instr.buildSlice t len vparts) := by
  unfold buildSliceA
  refine frzP_snd hH hr hl hp fun E0 H0 parts' e1 hH hr e4 hl0 hp => ?_
  have hl : parts'.length = vparts.toList.length := hl0.trans hl
  have key : ∀ (E : Env) (H : NL ABlk) (parts : List (Nat × AV)), E.H = lk H → HR E → parts.length = vparts.toList.length → (∀ (k i : Nat) (x : AV), parts[k]? = some (i, x) → ∃ v, vparts.toList[k]? = some (i, v) ∧ Rep E x v) →
      Snd P E H (match P.underlying t with
        | some (.slice elem) => match szOf P elem, (zeroA P elem).bind AV.cellsOf with
          | some s, some z => if 0 < s ∧ z.length = s ∧ len * s ≤ 2 ^ 24 ∧ len ≤ maxLen then
              match sliceRows s len z parts with
              | some rows => newRowA (newId dst) elem s true rows (fun g => .sl (newId dst) g 0 len)
              | none => .fail
            else .fail
          | _, _ => .fail
        | _ => .fail) (Instr.buildSlice t len vparts) := ?_
  · exact key E0 H0 parts' hH hr hl hp
  clear hp hl hl0 e4 hr hH e1 parts' H0 E0
  intro E H parts hH hr hl hp
  split
  · rename_i elem hu
    split
    · rename_i s z hs hz
      split
      · rename_i hc
        obtain ⟨h0, hzl, h24, hmx⟩ := hc
        rw [sliceRows_eq]
        cases hf : fillA (fun i => some (i * s, s)) (zerosA z (len * s)) parts with
        | none => exact Snd.fail
        | some flat =>
          simp only [Option.map_some]
          obtain ⟨zx, hzx, hzc⟩ := Option.bind_eq_some_iff.1 hz
          obtain ⟨zv, hzr, hzx'⟩ := zeroA_run hzx
          have hzz := cellsOf_rep hzc (hzx' E)
          have hzer := zeros_rep hzz (by omega) (len * s)
          obtain ⟨vout, h1, h2⟩ := fill_rep hl hp hzer hf
          have hfl : flat.length = len * s := by rw [fillA_length hf]; simp [zerosA]
          have hvl : vout.size = len * s := by have := h2.length; simp at this; omega
          refine newRow_snd hH hr (C := vout) (v := .slice (some ⟨E.w.heap.size, 0, none⟩) len len) (w' := E.w.alloc (.cells vout elem)) ?_ ⟨by simp, rfl, rfl, rfl⟩ (fun b hb => heap_alloc_old _ _ _ hb) (heap_alloc_new _ _) ?_ (row_of_flat h2 hfl) ?_
          · have h24' : ¬ (2 ^ 24 < len * s) := by omega
            by_cases hn : len * s = 0
            · have hlen0 : len = 0 := by rcases Nat.mul_eq_zero.1 hn with h | h <;> omega
              subst hlen0
              have hempty : ∀ f : Nat → Value, (Array.range 0).map f = #[] := fun f => by simp
              rw [Nat.zero_mul, hempty] at h1
              simp [Instr.buildSlice, run_underlying' hu, run_sizeOf' hs, hempty, h1, newRow]
            · simp only [Instr.buildSlice, Sem.run_bind, run_underlying' hu, Result.andThen_ok, run_sizeOf' hs, gt_iff_lt, if_neg h24', Sem.run_pure, if_neg hn, hzr, h1]
              simp [newRow]
          · simp [chunks, hvl]
          · intro E' g hw hb hφ hcs
            simp only [Rep]
            refine ⟨_, some ⟨E.w.heap.size, 0, none⟩, len, len, hb, Nat.le_refl _, rfl, fun _ => ⟨.inr rfl, rfl, Nat.le_refl _, hmx, fun _ => ⟨by rw [hφ]; simp, by rw [hcs, hvl]; simp⟩⟩⟩
      · exact Snd.fail
    · exact Snd.fail
  · exact Snd.fail

def makeSliceA (P : Program) (dst : Nat) (t : TypeId) (l c : AV) : AP AV :=
  match P.underlying t, l, c with
  | some (.slice elem), .int _ ln, .int _ cn => match P.info? elem, (zeroA P elem).bind AV.cellsOf with
    | some i, some z => if 0 < i.size ∧ z.length = i.size ∧ 0 ≤ ln ∧ ln ≤ cn ∧ (i.bytes : Int) * cn ≤ 281474976710656 ∧ cn ≤ 9223372036854775807 then
        .get (newId dst) fun old => if z.all (fun x => x.cellish && x.isInl) then .put (newId dst) { gen := old.gen + 1, kind := 2, elem, size := i.size, inl := true, rows := List.replicate ln.toNat z } (.ret (.sl (newId dst) (old.gen + 1) 0 ln.toNat)) else .fail
      else .fail
    | _, _ => .fail
  | _, _, _ => .fail

theorem makeSlice_snd {P : Program} {E : Env} {H : NL ABlk} (hH : E.H = lk H) (hr : HR E) {dst : Nat} {t : TypeId} {l c : AV} {vl vc : Value} (h1 : Rep E l vl) (h2 : Rep E c vc) :
    Snd P E H (makeSliceA P dst t l c) (Instr.makeSlice t vl vc) := by
  unfold makeSliceA
  split
  · rename_i elem kl ln kc cn hu
    simp only [Rep] at h1 h2
    subst h1; subst h2
    split
    · rename_i i z hi hz
      split
      · rename_i hc
        obtain ⟨g0, g1, g2, g3, g4, g5⟩ := hc
        obtain ⟨zx, hzx, hzc⟩ := Option.bind_eq_some_iff.1 hz
        have hzero : ∃ zv, i.zero = some zv ∧ ofValue zv = zx := by
          unfold zeroA at hzx
          simp only [hi, Option.bind_some, Option.map_eq_some_iff] at hzx
          exact hzx
        obtain ⟨zv, hzv, rfl⟩ := hzero
        have hzz := cellsOf_rep hzc (RepI.rep (E := E) _ _ (ofValue_rep zv))
        have hrun := run_make (P := P) E.w t elem i zv hu hi hzv kl kc ln cn g2 g3 g4 g5
        have hsz : (madeCells zv.cells (cn.toNat * i.size)).size = cn.toNat * i.size := size_madeCells _ _
        have hzer := zeros_rep hzz (by omega) (cn.toNat * i.size)
        refine Snd.get' ?_
        split
        · rename_i hall
          refine newRow_put (inl := true) (k := fun g => .sl (newId dst) g 0 ln.toNat) hH hr (C := madeCells zv.cells (cn.toNat * i.size)) hrun ⟨by simp, rfl, rfl, rfl⟩ (fun b hb => heap_alloc_old _ _ _ hb) (heap_alloc_new _ _) ?_ ?_ ?_ g0 (fun r row hrw => ?_)
          rotate_left 3
          · rw [List.getElem?_replicate] at hrw
            split at hrw
            · cases hrw
              refine ⟨g1, fun x hx => ?_⟩
              have := List.all_eq_true.1 hall x hx
              simpa using this
            · cases hrw
          all_goals clear hall
          all_goals first
            | (rw [hsz, List.length_replicate]; exact Nat.mul_le_mul_right _ (by omega))
            | skip
          · intro r row j x hrw hx
            rw [List.getElem?_replicate] at hrw
            split at hrw
            · rename_i hlt
              cases hrw
              have hj : j < z.length := (List.getElem?_eq_some_iff.1 hx).1
              have hlt' : r * i.size + j < cn.toNat * i.size := mul_lt_block (by omega) (by omega)
              have hget : (zerosA z (cn.toNat * i.size))[r * i.size + j]? = some x := by
                simp only [zerosA, List.getElem?_map, List.getElem?_range hlt', Option.map_some]
                rw [g1, Nat.add_comm, Nat.add_mul_mod_self_right, Nat.mod_eq_of_lt (by omega), List.getD_eq_getElem?_getD, hx]; rfl
              obtain ⟨u, hu', hxu⟩ := hzer.get hget
              exact ⟨u, by unfold madeCells; rw [← Array.getElem?_toList]; exact hu', hxu⟩
            · cases hrw
          · intro E' g hw hb hφ hcs
            simp only [Rep]
            exact ⟨_, some ⟨E.w.heap.size, 0, none⟩, ln.toNat, cn.toNat, hb, Nat.le_refl _, rfl, fun _ => ⟨.inr rfl, rfl, by omega, by simp only [maxLen]; omega, fun _ => ⟨by rw [hφ]; simp, by rw [hcs, hsz]; simp⟩⟩⟩
        · exact Snd.fail
      · exact Snd.fail
    · exact Snd.fail
  · exact Snd.fail

/-! ### Cutting -/
def bndA (d : Nat) : Option AV → Option Nat
  | none => some d
  | some (.int _ n) => if 0 ≤ n then some n.toNat else none
  | _ => none
def sliceA (P : Program) (t : TypeId) (x : AV) (lo hi : Option AV) : AP AV :=
  match P.underlying t, x with
  | some (.slice elem), .nils => match bndA 0 lo, bndA 0 hi, szOf P elem with
    | some 0, some 0, some _ => .ret .nils
    | _, _, _ => .fail
  | some (.slice elem), .list s rows => match bndA 0 lo, bndA rows.length hi with
    | some l, some h => if l ≤ h ∧ h ≤ rows.length ∧ szOf P elem = some s then .ret (.list s ((rows.take h).drop l)) else .fail
    | _, _ => .fail
  | some (.slice elem), .sl id g off len => .get id fun b => match bndA 0 lo, bndA len hi with
    | some l, some h => if b.gen = g ∧ l ≤ h ∧ h ≤ len ∧ szOf P elem = some b.size then .ret (.sl id g (off + l) (h - l)) else .fail
    | _, _ => .fail
  | some .string, .str s => match bndA 0 lo, bndA s.size hi with
    | some l, some h => if l ≤ h ∧ h ≤ s.size then .ret (.str (s.extract l h)) else .fail
    | _, _ => .fail
  | _, _ => .fail

def RepO (E : Env) : Option AV → Option Value → Prop
  | none, none => True
  | some x, some v => Rep E x v
  | _, _ => False
theorem bnd_run {P : Program} {E : Env} {d cap y : Nat} {o : Option AV} {v : Option Value} (h : RepO E o v) {n : Nat} (hb : bndA d o = some n) (code : BoundsCode) (hn : n ≤ y) (_hd : d ≤ cap) :
    (match v with | some v => Instr.sliceBound v y code | none => pure d).run P E.w = .ok n E.w := by
  cases o with
  | none =>
    cases v with
    | none => simp only [bndA, Option.some.injEq] at hb; subst hb; rfl
    | some v => exact h.elim
  | some x =>
    cases v with
    | none => exact h.elim
    | some v =>
      cases x <;> simp only [bndA, reduceCtorEq] at hb
      rename_i k m
      split at hb
      · rename_i hm
        simp only [Option.some.injEq] at hb
        subst hb
        simp only [RepO, Rep] at h
        subst h
        have : m ≤ (y : Int) := by omega
        simp [Instr.sliceBound, asIntOf, hm, this]
      · cases hb

theorem bounds_run {P : Program} {E : Env} {isSlice : Bool} {len cap : Nat} {lo hi : Option AV} {vlo vhi : Option Value} (h1 : RepO E lo vlo) (h2 : RepO E hi vhi) {l h : Nat} (hl : bndA 0 lo = some l) (hh : bndA len hi = some h)
    (hlh : l ≤ h) (hhc : h ≤ cap) : (Instr.sliceBounds isSlice len cap vlo vhi none).run P E.w = .ok (l, h, cap) E.w := by
  have b2 := bnd_run (P := P) (cap := len) h2 hh (if isSlice then .sliceAcap else .sliceAlen) hhc (Nat.le_refl _)
  have b1 := bnd_run (P := P) (cap := 0) h1 hl .sliceB hlh (Nat.le_refl _)
  unfold Instr.sliceBounds
  cases vhi <;> cases vlo <;> simp_all

theorem slice_snd {P : Program} {E : Env} {H : NL ABlk} (hH : E.H = lk H) (hr : HR E) {t : TypeId} {x : AV} {v : Value} {lo hi : Option AV} {vlo vhi : Option Value} (hx : Rep E x v) (h1 : RepO E lo vlo) (h2 : RepO E hi vhi) :
    Snd P E H (sliceA P t x lo hi) (Instr.sliceAt t v vlo vhi none) := by
  unfold sliceA
  split
  · rename_i elem hu
    split
    · rename_i e1 e2 hs
      simp only [Rep] at hx; subst hx
      have hb := bounds_run (P := P) (isSlice := true) (len := 0) (cap := 0) h1 h2 e1 e2 (Nat.le_refl _) (Nat.le_refl _)
      refine Snd.ret hH hr (v := .slice none 0 0) ?_ (by simp only [Rep])
      simp [Instr.sliceAt, run_underlying' hu, Instr.slice, hb, run_sizeOf' hs]
    · exact Snd.fail
  · rename_i elem s rows hu
    split
    · rename_i l h e1 e2
      split
      · rename_i hc
        obtain ⟨g1, g2, g3⟩ := hc
        simp only [Rep, RepI] at hx
        rcases hx with ⟨rfl, rfl⟩ | ⟨a, cap, rfl, i1, i2, i3, i4⟩
        · have hh : h = 0 := by simpa using g2
          subst hh
          have hl : l = 0 := by omega
          subst hl
          have hb := bounds_run (P := P) (isSlice := true) (len := 0) (cap := 0) h1 h2 e1 (by simpa using e2) (Nat.le_refl _) (Nat.le_refl _)
          refine Snd.ret hH hr (v := .slice none 0 0) ?_ (by simp [Rep, RepI])
          simp [Instr.sliceAt, run_underlying' hu, Instr.slice, hb, run_sizeOf' g3]
        · have hb := bounds_run (P := P) (isSlice := true) (len := rows.length) (cap := cap) h1 h2 e1 e2 g1 (by omega)
          refine Snd.ret hH hr (v := .slice (if cap = l then some a else some (a.add (l * s))) (h - l) (cap - l)) ?_ ?_
          · simp [Instr.sliceAt, run_underlying' hu, Instr.slice, hb, run_sizeOf' g3]
          · have hlen : ((rows.take h).drop l).length = h - l := by rw [List.length_drop, List.length_take]; omega
            simp only [Rep, RepI]
            right
            refine ⟨if cap = l then a else a.add (l * s), cap - l, by rw [hlen]; split <;> rfl, by rw [hlen]; omega, by omega, fun hn => ?_, ?_⟩
            · have hpos : 0 < h - l := by rw [← hlen]; exact List.length_pos_iff.2 hn
              have hne : rows ≠ [] := by intro e; subst e; simp at g2; omega
              obtain ⟨p1, p2⟩ := i3 hne
              rw [if_neg (by omega), add_add' a _ p1]
              exact ⟨rfl, p2⟩
            · by_cases hpos : 0 < h - l
              · have hne : rows ≠ [] := by intro e; subst e; simp at g2; omega
                obtain ⟨p1, p2⟩ := i3 hne
                rw [if_neg (by omega), add_add' a _ p1]
                refine RepRows.of_get fun i row hrow => ?_
                rw [List.getElem?_drop, List.getElem?_take] at hrow
                split at hrow
                · have := i4.get hrow
                  refine ⟨this.1, ?_⟩
                  have e : a.off + l * s + i * s = a.off + (l + i) * s := by rw [Nat.add_mul]; omega
                  simp only [e]; exact this.2
                · cases hrow
              · have : (rows.take h).drop l = [] := List.eq_nil_of_length_eq_zero (by omega)
                rw [this]
                simp only [RepRows]
      · exact Snd.fail
    · exact Snd.fail
  · rename_i elem id g off len hu
    simp only [Rep] at hx
    obtain ⟨blk, oa, len', cap, hb, hle, rfl, hg⟩ := hx
    refine Snd.get (by rw [← hH]; exact hb) ?_
    split
    · rename_i l h e1 e2
      split
      · rename_i hc
        obtain ⟨g0, g1, g2, g3⟩ := hc
        obtain ⟨hk, rfl, i1, i2, i3⟩ := hg g0
        have hbd := bounds_run (P := P) (isSlice := true) (len := len') (cap := cap) h1 h2 e1 e2 g1 (by omega)
        refine Snd.ret hH hr (v := .slice (if cap = l then oa else oa.map (·.add (l * blk.size))) (h - l) (cap - l)) ?_ ?_
        · simp [Instr.sliceAt, run_underlying' hu, Instr.slice, hbd, run_sizeOf' g3]
        · simp only [Rep]
          refine ⟨blk, _, _, _, hb, hle, rfl, fun _ => ⟨hk, rfl, by omega, by omega, fun hp => ?_⟩⟩
          obtain ⟨rfl, j2⟩ := i3 (by omega)
          rw [if_neg (by omega)]
          refine ⟨?_, ?_⟩
          · simp only [Option.map_some, add_mk, Nat.add_mul]
          · have e : off + l + (cap - l) = off + cap := by omega
            rw [e]; exact j2
      · exact Snd.fail
    · exact Snd.fail
  · rename_i s hu
    split
    · rename_i l h e1 e2
      split
      · rename_i hc
        simp only [Rep] at hx; subst hx
        have hbd := bounds_run (P := P) (isSlice := false) (len := s.size) (cap := s.size) h1 h2 e1 e2 hc.1 hc.2
        refine Snd.retStr hH hr ?_
        simp [Instr.sliceAt, run_underlying' hu, Instr.slice, hbd]
      · exact Snd.fail
    · exact Snd.fail
  · exact Snd.fail
end Go.Abs
