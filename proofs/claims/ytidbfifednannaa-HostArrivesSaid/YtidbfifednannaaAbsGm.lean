/- Maps in the abstract frame. Conditions: keys are integers, strings or bools. -/
import Derived.Test.YtidbfifednannaaAbsG
import Derived.MapFrom
namespace Go.Abs
open Go

theorem HR.newMap {E : Env} (hr : HR E) {id : Nat} {blk : ABlk} {w' : World}
    (hsz' : w'.heap.size = E.w.heap.size + 1 ∧ w'.os = E.w.os ∧ w'.output = E.w.output ∧ w'.tape = E.w.tape) (hold : ∀ b, b < E.w.heap.size → w'.heap[b]? = E.w.heap[b]?) (hnew : w'.heap[E.w.heap.size]? = some (.map #[] 0))
    (hk : blk.kind = 3) (hg : ∀ old, E.H id = some old → old.gen < blk.gen) (hrows : blk.rows = []) :
    HR ⟨w', upd E.H id (some blk), upd E.φ id E.w.heap.size, upd E.cs id 1, E.F⟩ ∧ Step E ⟨w', upd E.H id (some blk), upd E.φ id E.w.heap.size, upd E.cs id 1, E.F⟩ := by
  have hsz := hsz'.1
  have hs : Step E ⟨w', upd E.H id (some blk), upd E.φ id E.w.heap.size, upd E.cs id 1, E.F⟩ := by
    refine ⟨by simp only; omega, fun b hb _ => hold b hb, rfl, fun k b hb => ?_, fun k b' hb hk' hc' => ?_, Kept.new hsz' hold (by rw [hnew]; trivial)⟩
    · by_cases e : id = k
      · subst e
        exact ⟨blk, by simp [upd_same], Nat.le_of_lt (hg b hb), fun e => by have := hg b hb; omega⟩
      · exact ⟨b, by simp [upd_other _ _ _ e, hb], Nat.le_refl _, fun _ _ => ⟨.inl rfl, rfl, rfl, by simp [upd_other _ _ _ e], by simp [upd_other _ _ _ e]⟩⟩
    · by_cases e : id = k
      · subst e; right; simp [upd_same]
      · left
        refine ⟨b', by simpa [upd_other _ _ _ e] using hb, hk', by simpa [upd_other _ _ _ e] using hc', by simp [upd_other _ _ _ e]⟩
  refine ⟨⟨fun k b hb => ?_, fun i j bi bj hi hj ki kj ci cj hne => ?_, fun k b hb hk' hc' => ?_, fun b hb => by have := hr.fb b hb; simp only; omega⟩, hs⟩
  · by_cases e : id = k
    · subst e
      simp only [upd_same, Option.some.injEq] at hb
      subst hb
      unfold BlkOK
      simp only [hk, upd_same]
      exact ⟨by omega, #[], 0, hnew, by simp, by simp, by simp [hrows], fun r row h => by simp [hrows] at h⟩
    · simp only [upd_other _ _ _ e] at hb
      exact BlkOK.mono hs (by simp [upd_other _ _ _ e]) (by simp [upd_other _ _ _ e]) (fun hz hc => hold _ (hr.nf k b hb hz hc).1) (hr.blk k b hb)
  · by_cases e1 : id = i
    · subst e1
      have e2 : id ≠ j := hne
      simp only [upd_same, upd_other _ _ _ e2] at hj cj ⊢
      have := (hr.nf j bj hj kj cj).1
      omega
    · simp only [upd_other _ _ _ e1] at hi ci ⊢
      by_cases e2 : id = j
      · subst e2
        simp only [upd_same]
        have := (hr.nf i bi hi ki ci).1
        omega
      · simp only [upd_other _ _ _ e2] at hj cj ⊢
        exact hr.inj i j bi bj hi hj ki kj ci cj hne
  · by_cases e : id = k
    · subst e
      simp only [upd_same]
      exact ⟨by omega, fun hf => by have := hr.fb _ hf; omega⟩
    · simp only [upd_other _ _ _ e] at hb hc' ⊢
      have := hr.nf k b hb hk' hc'
      exact ⟨by omega, this.2⟩

theorem HR.writeMap {E : Env} (hr : HR E) {id : Nat} {blk blk' : ABlk} {es : Array MapEntry} {clock : Nat} {w' : World} (hb : E.H id = some blk) (hk : blk.kind = 3) (hcp : 0 < E.cs id)
    (hsz' : w'.heap.size = E.w.heap.size ∧ w'.os = E.w.os ∧ w'.output = E.w.output ∧ w'.tape = E.w.tape) (hold : ∀ b, b ≠ E.φ id → w'.heap[b]? = E.w.heap[b]?) (hnew : w'.heap[E.φ id]? = some (.map es clock))
    (hk' : blk'.kind = 3) (hg : blk'.gen = blk.gen) (hs : blk'.size = blk.size) (he : blk'.elem = blk.elem) (hb1 : es.toList.Pairwise fun a b => a.born < b.born) (hb2 : ∀ e ∈ es.toList, e.born < clock) (hle : es.size = blk'.rows.length)
    (hc : ∀ (r : Nat) (row : List AV), blk'.rows[r]? = some row → ∃ (k v : AV) (e : MapEntry), row = [k, v] ∧ es[r]? = some e ∧ Rep E k e.key ∧ Rep E v e.val) :
    HR ⟨w', upd E.H id (some blk'), E.φ, E.cs, E.F⟩ ∧ Step E ⟨w', upd E.H id (some blk'), E.φ, E.cs, E.F⟩ := by
  have hsz := hsz'.1
  have hkept : Kept E.w w' := Kept.write hsz' hold (by
    have := hr.blk id blk hb
    unfold BlkOK at this
    simp only [hk] at this
    obtain ⟨_, es, clock, a2, _⟩ := this
    rw [a2]; trivial) (by rw [hnew]; trivial)
  have hst : Step E ⟨w', upd E.H id (some blk'), E.φ, E.cs, E.F⟩ := by
    refine ⟨by simp only; omega, fun b _ hn => hold b (fun e => hn id blk hb (by omega) hcp e.symm), rfl, fun k b hbk => ?_, fun k b' hbk hkk hck => ?_, hkept⟩
    · by_cases e : id = k
      · subst e
        rw [hb] at hbk; cases hbk
        exact ⟨blk', by simp [upd_same], by omega, fun _ _ => ⟨.inl (by omega), hs, he, rfl, rfl⟩⟩
      · exact ⟨b, by simp [upd_other _ _ _ e, hbk], Nat.le_refl _, fun _ _ => ⟨.inl rfl, rfl, rfl, rfl, rfl⟩⟩
    · left
      by_cases e : id = k
      · subst e; exact ⟨blk, hb, by omega, hck, rfl⟩
      · exact ⟨b', by simpa [upd_other _ _ _ e] using hbk, hkk, hck, rfl⟩
  refine ⟨⟨fun k b hbk => ?_, fun i j bi bj hi hj ki kj ci cj hne => ?_, fun k b hbk hkk hck => ?_, fun b hf => by have := hr.fb b hf; simp only; omega⟩, hst⟩
  · by_cases e : id = k
    · subst e
      simp only [upd_same, Option.some.injEq] at hbk
      subst hbk
      unfold BlkOK
      simp only [hk']
      refine ⟨hcp, es, clock, hnew, hb1, hb2, hle, fun r row h1 => ?_⟩
      obtain ⟨k, v, e, q1, q2, q3, q4⟩ := hc r row h1
      exact ⟨k, v, e, q1, q2, Rep.mono hst _ _ q3, Rep.mono hst _ _ q4⟩
    · simp only [upd_other _ _ _ e] at hbk
      exact BlkOK.mono hst rfl rfl (fun hz hck => hold _ (fun h => hr.inj id k blk b hb hbk (by omega) hz hcp hck e h.symm)) (hr.blk k b hbk)
  · have hi' : ∃ b, E.H i = some b ∧ b.kind ≠ 0 := by
      by_cases e : id = i
      · subst e; exact ⟨blk, hb, by omega⟩
      · exact ⟨bi, by simpa [upd_other _ _ _ e] using hi, ki⟩
    have hj' : ∃ b, E.H j = some b ∧ b.kind ≠ 0 := by
      by_cases e : id = j
      · subst e; exact ⟨blk, hb, by omega⟩
      · exact ⟨bj, by simpa [upd_other _ _ _ e] using hj, kj⟩
    obtain ⟨b1, h1, k1⟩ := hi'
    obtain ⟨b2, h2, k2⟩ := hj'
    exact hr.inj i j b1 b2 h1 h2 k1 k2 ci cj hne
  · have hk2 : ∃ b, E.H k = some b ∧ b.kind ≠ 0 := by
      by_cases e : id = k
      · subst e; exact ⟨blk, hb, by omega⟩
      · exact ⟨b, by simpa [upd_other _ _ _ e] using hbk, hkk⟩
    obtain ⟨b1, h1, k1⟩ := hk2
    have := hr.nf k b1 h1 k1 hck
    exact ⟨by simp only; omega, this.2⟩

/-! ### The operations -/
def keyOf (P : Program) (mt : TypeId) : Option (TypeId × TypeId × TypeDesc) :=
  match P.underlying mt with
  | some (.map k e) => match P.underlying k with
    | some d => some (k, e, d)
    | none => none
  | _ => none
def keyEqA (d : TypeDesc) (x y : AV) : Option Bool :=
  match d, x, y with
  | .int _, .int k a, .int k' b => if k = k' then some (decide (a = b)) else none
  | .string, .str a, .str b => some (decide (a = b))
  | .bool, .bool a, .bool b => some (decide (a = b))
  | _, _, _ => none
def keyOK (d : TypeDesc) (x : AV) : Bool :=
  match d, x with
  | .int k, .int k' _ => decide (k = k')
  | .string, .str _ => true
  | .bool, .bool _ => true
  | _, _ => false
def findA (d : TypeDesc) (x : AV) : List (List AV) → Nat → Option (Option (Nat × AV))
  | [], _ => some none
  | row :: r, i => match row with
    | [k, v] => match keyEqA d x k with
      | some true => some (some (i, v))
      | some false => findA d x r (i + 1)
      | none => none
    | _ => none
def makeMapA (dst : Nat) (r : Option AV) : AP AV :=
  match r with
  | none => .get (newId dst) fun old => .put (newId dst) { gen := old.gen + 1, kind := 3, elem := 0, size := 0, inl := false, rows := [] } (.ret (.amap (newId dst) (old.gen + 1)))
  | some _ => .fail
def foundA (P : Program) (e : TypeId) (ok : Bool) (x : Option (Option (Nat × AV))) : AP AV :=
  match x with
  | some (some (_, v)) => .ret (if ok then .tup [v, .bool true] else v)
  | some none => match zeroA P e with
    | some z => .ret (if ok then .tup [z, .bool false] else z)
    | none => .fail
  | none => .fail
def lookupA (P : Program) (mt : TypeId) (m x : AV) (ok : Bool) : AP AV :=
  match keyOf P mt with
  | some (_, e, d) => if keyOK d x then match m with
    | .nilm => foundA P e ok (some none)
    | .amap id g => .get id fun b => if b.gen = g ∧ b.kind = 3 then foundA P e ok (findA d x b.rows 0) else .fail
    | _ => .fail
    else .fail
  | none => .fail
def mapUpdateA (P : Program) (mt : TypeId) (m x v : AV) : AP AV :=
  match keyOf P mt with
  | some (_, _, d) => if keyOK d x then match m with
    | .amap id g => .get id fun b => if b.gen = g ∧ b.kind = 3 then match findA d x b.rows 0 with
      | some (some (i, _)) => .put id { b with rows := b.rows.set i [x, v] } (.ret .any)
      | some none => .put id { b with rows := b.rows ++ [[x, v]] } (.ret .any)
      | none => .fail
      else .fail
    | _ => .fail
    else .fail
  | none => .fail

/-! ### They are sound -/
theorem makeMap_snd {P : Program} {E : Env} {H : NL ABlk} (hH : E.H = lk H) (hr : HR E) {dst : Nat} {t : TypeId} : Snd P E H (makeMapA dst none) (Instr.makeMap t none) := by
  unfold makeMapA
  refine Snd.get' ?_
  have hrun : (Instr.makeMap t none).run P E.w = .ok (.map (some E.w.heap.size)) (E.w.alloc (.map #[] 0)) := by
    simp [Instr.makeMap, Result.andThen]
  obtain ⟨h1, h2⟩ := hr.newMap (id := newId dst) (blk := { gen := ((lk H (newId dst)).getD {}).gen + 1, kind := 3, elem := 0, size := 0, inl := false, rows := [] }) (w' := E.w.alloc (.map #[] 0))
    ⟨by simp, rfl, rfl, rfl⟩ (fun b hb => heap_alloc_old _ _ _ hb) (heap_alloc_new _ _) rfl (fun old ho => by rw [hH] at ho; simp [ho]) rfl
  refine Snd.put_ret _ _ hrun ?_ h1 h2 ?_
  · simp only [hH]
  · simp only [Rep]
    exact ⟨{ gen := ((lk H (newId dst)).getD {}).gen + 1, kind := 3, elem := 0, size := 0, inl := false, rows := [] }, _, upd_same _ _ _, Nat.le_refl _, rfl, fun _ => ⟨rfl, by simp [upd_same]⟩⟩

def entriesR (E : Env) (rows : List (List AV)) (es : List MapEntry) : Prop :=
  es.length = rows.length ∧ ∀ (r : Nat) (row : List AV), rows[r]? = some row → ∃ (k v : AV) (e : MapEntry), row = [k, v] ∧ es[r]? = some e ∧ Rep E k e.key ∧ Rep E v e.val
theorem keyOK_is {d : TypeDesc} {E : Env} {x : AV} {v : Value} (h : keyOK d x = true) (hx : Rep E x v) : MapKept.IsKey d v := by
  cases d <;> cases x <;> simp only [keyOK, decide_eq_true_eq] at h <;> try (cases h)
  all_goals
    simp only [Rep] at hx
    subst hx
    simp [MapKept.IsKey]
theorem keyEqA_now {d : TypeDesc} {E : Env} {x y : AV} {v u : Value} {b : Bool} (hx : Rep E x v) (hy : Rep E y u) (h : keyEqA d x y = some b) : Instr.sameNow d v u = some b ∧ (b = true → u = v) := by
  unfold keyEqA at h
  split at h
  · rename_i k a k' a'
    simp only [Rep] at hx hy
    subst hx
    subst hy
    split at h
    · rename_i e
      subst e
      simp only [Option.some.injEq] at h
      subst h
      refine ⟨?_, fun hb => ?_⟩
      · simp only [Instr.sameNow, if_true]
        rfl
      · simp only [decide_eq_true_eq] at hb
        rw [hb]
    · cases h
  · simp only [Rep] at hx hy
    subst hx
    subst hy
    simp only [Option.some.injEq] at h
    subst h
    refine ⟨?_, fun hb => ?_⟩
    · simp only [Instr.sameNow]
      congr 1
      rw [Bool.eq_iff_iff]
      simp [MapKept.bytes_beq]
    · simp only [decide_eq_true_eq] at hb
      rw [hb]
  · simp only [Rep] at hx hy
    subst hx
    subst hy
    simp only [Option.some.injEq] at h
    subst h
    refine ⟨?_, fun hb => ?_⟩
    · simp only [Instr.sameNow]
      congr 1
    · simp only [decide_eq_true_eq] at hb
      rw [hb]
  · cases h
theorem findA_now {d : TypeDesc} {E : Env} {x : AV} {xv : Value} (hx : Rep E x xv) : ∀ (rows : List (List AV)) (es : List MapEntry) (i : Nat), entriesR E rows es → ∀ r, findA d x rows i = some r →
    match r with
    | none => Instr.findNow d xv es i = some none
    | some (j, v) => ∃ e, i ≤ j ∧ j - i < rows.length ∧ es[j - i]? = some e ∧ Instr.findNow d xv es i = some (some (j, e.val)) ∧ Rep E v e.val ∧ e.key = xv
  | [], es, i, h, r, hf => by
    simp only [findA, Option.some.injEq] at hf
    subst hf
    have := h.1
    simp only [List.length_nil, List.length_eq_zero_iff] at this
    subst this
    rfl
  | row :: rows, es, i, h, r, hf => by
    obtain ⟨h1, h2⟩ := h
    obtain ⟨k, v, e, rfl, q2, q3, q4⟩ := h2 0 row (by simp)
    match es, h1, q2, h2 with
    | e0 :: es, h1, q2, h2 =>
      simp only [List.getElem?_cons_zero, Option.some.injEq] at q2
      subst q2
      simp only [findA] at hf
      split at hf
      · rename_i hk
        simp only [Option.some.injEq] at hf
        subst hf
        obtain ⟨s1, s2⟩ := keyEqA_now hx q3 hk
        exact ⟨e0, Nat.le_refl _, by simp, by simp, by simp [Instr.findNow, s1], q4, s2 rfl⟩
      · rename_i hk
        obtain ⟨s1, _⟩ := keyEqA_now hx q3 hk
        have ih := findA_now hx rows es (i + 1) ⟨by simpa using h1, fun r row hr => by simpa using h2 (r + 1) row (by simpa using hr)⟩ r hf
        cases r with
        | none => simp only at ih ⊢; simp [Instr.findNow, s1, ih]
        | some p =>
          obtain ⟨j, v'⟩ := p
          simp only at ih ⊢
          obtain ⟨e', a1, a2, a3, a4, a5, a6⟩ := ih
          refine ⟨e', by omega, by simp only [List.length_cons]; omega, ?_, by simp [Instr.findNow, s1, a4], a5, a6⟩
          rw [show j - i = (j - (i + 1)) + 1 from by omega, List.getElem?_cons_succ]
          exact a3
      · cases hf
theorem keyOf_some {P : Program} {mt k e : TypeId} {d : TypeDesc} (h : keyOf P mt = some (k, e, d)) : P.underlying mt = some (.map k e) ∧ P.underlying k = some d := by
  unfold keyOf at h
  split at h
  · rename_i k' e' hu
    split at h
    · rename_i d' hd
      simp only [Option.some.injEq, Prod.mk.injEq] at h
      obtain ⟨rfl, rfl, rfl⟩ := h
      exact ⟨hu, hd⟩
    · cases h
  · cases h
theorem HR.map {E : Env} (h : HR E) {id : Nat} {blk : ABlk} (hb : E.H id = some blk) (hk : blk.kind = 3) :
    0 < E.cs id ∧ ∃ es clock, E.w.heap[E.φ id]? = some (.map es clock) ∧ (es.toList.Pairwise fun a b => a.born < b.born) ∧ (∀ e ∈ es.toList, e.born < clock) ∧ es.size = blk.rows.length ∧ entriesR E blk.rows es.toList := by
  have := h.blk id blk hb
  unfold BlkOK at this
  simp only [hk] at this
  obtain ⟨a1, es, clock, a2, a3, a4, a5, a6⟩ := this
  exact ⟨a1, es, clock, a2, a3, a4, a5, by simpa using a5, fun r row hr => by
    obtain ⟨k, v, e, q1, q2, q3, q4⟩ := a6 r row hr
    exact ⟨k, v, e, q1, by simpa using q2, q3, q4⟩⟩
theorem found_snd {P : Program} {E : Env} {H : NL ABlk} (hH : E.H = lk H) (hr : HR E) {e : TypeId} {ok : Bool} {r : Option (Option (Nat × AV))} {c : Sem Value}
    (hn : r = some none → ∀ z, (∀ w, (zeroValue e).run P w = .ok z w) → c.run P E.w = .ok (if ok then .tuple #[z, .bool false] else z) E.w)
    (hs : ∀ j v, r = some (some (j, v)) → ∃ u, Rep E v u ∧ c.run P E.w = .ok (if ok then .tuple #[u, .bool true] else u) E.w) : Snd P E H (foundA P e ok r) c := by
  have fin : ∀ (x : AV) (u : Value) (b : Bool), Rep E x u → c.run P E.w = .ok (if ok then .tuple #[u, .bool b] else u) E.w → Snd P E H (.ret (if ok then .tup [x, .bool b] else x)) c := fun x u b hx hrun => by
    refine Snd.ret hH hr hrun ?_
    cases ok with
    | true =>
      simp only [if_true, Rep]
      exact ⟨_, rfl, by simp only [RepL, Rep]; exact ⟨u, _, rfl, hx, _, _, rfl, rfl, rfl⟩⟩
    | false => exact hx
  unfold foundA
  split
  · rename_i j v
    obtain ⟨u, h1, h2⟩ := hs j v rfl
    exact fin v u true h1 h2
  · split
    · rename_i z hz
      obtain ⟨u, h1, h2⟩ := zeroA_run hz
      exact fin z u false (h2 E) (hn rfl u h1)
    · exact Snd.fail
  · exact Snd.fail
theorem lookup_snd {P : Program} {E : Env} {H : NL ABlk} (hH : E.H = lk H) (hr : HR E) {t : TypeId} {m x : AV} {mv xv : Value} {ok : Bool} (hm : Rep E m mv) (hx : Rep E x xv) :
    Snd P E H (lookupA P t m x ok) (Instr.lookup t mv xv ok) := by
  unfold lookupA
  split
  · rename_i k e d hk
    obtain ⟨hu, hd⟩ := keyOf_some hk
    split
    · rename_i hok
      have hik := keyOK_is hok hx
      split
      · simp only [Rep] at hm
        subst hm
        refine found_snd hH hr (fun _ z hz => ?_) (fun j v h => by cases h)
        have hf : (Instr.findKey k xv ([] : List MapEntry)).run P E.w = .ok none E.w := MapKept.run_findKey hd rfl
        cases ok <;> simp [Instr.lookup, run_underlying hu, MapKept.run_checkKey hd hik, hf, hz, Result.andThen]
      · rename_i id g
        simp only [Rep] at hm
        obtain ⟨blk, r, hb, hle, rfl, hg⟩ := hm
        rw [hH] at hb
        refine Snd.get hb ?_
        split
        · rename_i hc
          obtain ⟨_, rfl⟩ := hg hc.1
          obtain ⟨c1, es, clock, c2, c3, c4, c5, c6⟩ := hr.map (by rw [hH]; exact hb) hc.2
          refine found_snd hH hr (fun hn z hz => ?_) (fun j v h => ?_)
          · have hf := MapKept.run_findKey (w := E.w) hd (findA_now hx _ _ 0 c6 none hn)
            cases ok <;> simp [Instr.lookup, run_underlying hu, MapKept.run_getObj_map c2, MapKept.run_checkKey hd hik, hf, hz, Result.andThen]
          · obtain ⟨en, a1, a2, a3, a4, a5, a6⟩ := findA_now hx _ _ 0 c6 _ h
            have hf := MapKept.run_findKey (w := E.w) hd a4
            refine ⟨en.val, a5, ?_⟩
            cases ok <;> simp [Instr.lookup, run_underlying hu, MapKept.run_getObj_map c2, MapKept.run_checkKey hd hik, hf, Result.andThen]
        · exact Snd.fail
      · exact Snd.fail
    · exact Snd.fail
  · exact Snd.fail

theorem mapUpdate_snd {P : Program} {E : Env} {H : NL ABlk} (hH : E.H = lk H) (hr : HR E) {t : TypeId} {m x v : AV} {mv xv vv : Value} (hm : Rep E m mv) (hx : Rep E x xv) (hv : Rep E v vv) :
    Snd P E H (mapUpdateA P t m x v) (do Instr.mapUpdate t mv xv vv; pure undef) := by
  unfold mapUpdateA
  split
  · rename_i k e d hk
    obtain ⟨hu, hd⟩ := keyOf_some hk
    split
    · rename_i hok
      have hik := keyOK_is hok hx
      split
      · rename_i id g
        simp only [Rep] at hm
        obtain ⟨blk, r, hb, hle, rfl, hg⟩ := hm
        have hbE := hb
        rw [hH] at hb
        refine Snd.get hb ?_
        split
        · rename_i hc
          obtain ⟨_, rfl⟩ := hg hc.1
          obtain ⟨c1, es, clock, c2, c3, c4, c5, c6⟩ := hr.map hbE hc.2
          split
          · rename_i j v0 hfind
            obtain ⟨en, a1, a2, a3, a4, a5, a6⟩ := findA_now hx _ _ 0 c6 _ hfind
            have hf := MapKept.run_findKey (w := E.w) hd a4
            have hj : es[j]? = some en := by simpa using a3
            have hrun : (do Instr.mapUpdate t (.map (some (E.φ id))) xv vv; pure undef : Sem Value).run P E.w = .ok undef { E.w with heap := E.w.heap.setIfInBounds (E.φ id) (.map (es.modify j fun e => { e with key := xv, val := vv }) clock) } := by
              simp [Instr.mapUpdate, run_underlying hu, MapKept.run_getObj_map c2, MapKept.run_checkKey hd hik, hf, hj, a6, MapKept.run_keyThatStays hik, MapKept.run_setObj_map _ c2, Result.andThen]
            have hset := MapKept.heap_set c2 (o' := .map (es.modify j fun e => { e with key := xv, val := vv }) clock)
            have hborn : (es.modify j fun e => { e with key := xv, val := vv }).toList.map (·.born) = es.toList.map (·.born) := by
              apply List.ext_getElem?
              intro i
              simp only [List.getElem?_map, Array.getElem?_toList, Array.getElem?_modify]
              by_cases hij : j = i
              · subst hij; simp [hj]
              · simp [hij]
            obtain ⟨h1, h2⟩ := hr.writeMap (blk' := { blk with rows := blk.rows.set j [x, v] }) (w' := { E.w with heap := E.w.heap.setIfInBounds (E.φ id) (.map (es.modify j fun e => { e with key := xv, val := vv }) clock) })
              hbE hc.2 c1 ⟨by simp, rfl, rfl, rfl⟩ (fun b hb => hset.2 b hb) hset.1 hc.2 rfl rfl rfl
              (by
                have hp : (es.toList.map (·.born)).Pairwise (· < ·) := List.pairwise_map.2 c3
                rw [← hborn] at hp
                exact List.pairwise_map.1 hp)
              (fun e' he' => by
                have : e'.born ∈ (es.modify j fun e => { e with key := xv, val := vv }).toList.map (·.born) := List.mem_map.2 ⟨e', he', rfl⟩
                rw [hborn] at this
                obtain ⟨y, hy, hyb⟩ := List.mem_map.1 this
                rw [← hyb]
                exact c4 y hy)
              (by simp [c5])
              (fun r row hrow => by
                rw [List.getElem?_set] at hrow
                split at hrow
                · rename_i e1
                  subst e1
                  split at hrow
                  · simp only [Option.some.injEq] at hrow
                    exact ⟨x, v, { en with key := xv, val := vv }, hrow.symm, by simp [Array.getElem?_modify, hj], hx, hv⟩
                  · cases hrow
                · rename_i e1
                  obtain ⟨k', v', e', q1, q2, q3, q4⟩ := c6.2 r row hrow
                  exact ⟨k', v', e', q1, by simp [Array.getElem?_modify, e1]; simpa using q2, q3, q4⟩)
            exact Snd.put_ret _ _ hrun (by simp only [hH]) h1 h2 trivial
          · rename_i hfind
            have hf := MapKept.run_findKey (w := E.w) hd (findA_now hx _ _ 0 c6 none hfind)
            have hrun : (do Instr.mapUpdate t (.map (some (E.φ id))) xv vv; pure undef : Sem Value).run P E.w = .ok undef { E.w with heap := E.w.heap.setIfInBounds (E.φ id) (.map (es.push { key := xv, val := vv, born := clock }) (clock + 1)) } := by
              simp [Instr.mapUpdate, run_underlying hu, MapKept.run_getObj_map c2, MapKept.run_checkKey hd hik, hf, MapKept.run_setObj_map _ c2, Result.andThen]
            have hset := MapKept.heap_set c2 (o' := .map (es.push { key := xv, val := vv, born := clock }) (clock + 1))
            obtain ⟨h1, h2⟩ := hr.writeMap (blk' := { blk with rows := blk.rows ++ [[x, v]] }) (w' := { E.w with heap := E.w.heap.setIfInBounds (E.φ id) (.map (es.push { key := xv, val := vv, born := clock }) (clock + 1)) })
              hbE hc.2 c1 ⟨by simp, rfl, rfl, rfl⟩ (fun b hb => hset.2 b hb) hset.1 hc.2 rfl rfl rfl
              (by
                simp only [Array.toList_push, List.pairwise_append]
                refine ⟨c3, by simp, fun a ha b hb => ?_⟩
                simp only [List.mem_singleton] at hb
                subst hb
                exact c4 a ha)
              (fun e' he' => by
                simp only [Array.toList_push, List.mem_append, List.mem_singleton] at he'
                rcases he' with he' | he'
                · have := c4 e' he'; omega
                · subst he'; simp only; omega)
              (by simp [c5])
              (fun r row hrow => by
                by_cases hlt : r < blk.rows.length
                · rw [List.getElem?_append_left hlt] at hrow
                  obtain ⟨k', v', e', q1, q2, q3, q4⟩ := c6.2 r row hrow
                  refine ⟨k', v', e', q1, ?_, q3, q4⟩
                  rw [Array.getElem?_push, if_neg (by omega)]
                  simpa using q2
                · rw [List.getElem?_append_right (by omega)] at hrow
                  have hr0 : r = blk.rows.length := by
                    have := (List.getElem?_eq_some_iff.1 hrow).1
                    simp only [List.length_cons, List.length_nil] at this
                    omega
                  subst hr0
                  simp only [Nat.sub_self, List.getElem?_cons_zero, Option.some.injEq] at hrow
                  exact ⟨x, v, { key := xv, val := vv, born := clock }, hrow.symm, by rw [Array.getElem?_push, if_pos (by omega)], hx, hv⟩)
            exact Snd.put_ret _ _ hrun (by simp only [hH]) h1 h2 trivial
          · exact Snd.fail
        · exact Snd.fail
      · exact Snd.fail
    · exact Snd.fail
  · exact Snd.fail
end Go.Abs
