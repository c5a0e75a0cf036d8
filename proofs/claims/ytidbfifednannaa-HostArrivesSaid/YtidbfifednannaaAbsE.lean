/- Storing and appending, abstractly, with what each owes. Conditions: none. -/
import Derived.Test.YtidbfifednannaaAbsDz
import Derived.Laws.CopyRow
namespace Go.Abs
open Go

def splice {α : Type} (l : List α) (p : Nat) (vs : List α) : List α := l.take p ++ vs ++ l.drop (p + vs.length)
theorem splice_length {α : Type} {l : List α} {p : Nat} {vs : List α} (h : p + vs.length ≤ l.length) : (splice l p vs).length = l.length := by
  simp only [splice, List.length_append, List.length_take, List.length_drop]; omega
theorem splice_get {α : Type} {l : List α} {p : Nat} {vs : List α} (h : p + vs.length ≤ l.length) (i : Nat) :
    (splice l p vs)[i]? = if i < p then l[i]? else if i < p + vs.length then vs[i - p]? else l[i]? := by
  have ht : (l.take p).length = p := by rw [List.length_take]; omega
  unfold splice
  by_cases h1 : i < p
  · rw [if_pos h1, List.append_assoc, List.getElem?_append_left (by omega), List.getElem?_take, if_pos h1]
  · rw [if_neg h1]
    by_cases h2 : i < p + vs.length
    · rw [if_pos h2, List.getElem?_append_left (by rw [List.length_append]; omega), List.getElem?_append_right (by omega), ht]
    · rw [if_neg h2, List.getElem?_append_right (by rw [List.length_append]; omega), List.getElem?_drop]
      congr 1; rw [List.length_append]; omega

/-! ### store -/
theorem mul_lt_block {r r' s j : Nat} (h : r < r') (hj : j < s) : r * s + j < r' * s := by
  have : (r + 1) * s ≤ r' * s := Nat.mul_le_mul_right s h
  rw [Nat.add_mul] at this
  omega

def putCells (id g r o : Nat) (cs : List AV) : AP AV :=
  .get id fun b =>
    if b.gen = g ∧ b.kind = 2 ∧ cs.all (fun x => x.cellish && (!b.inl || x.isInl)) = true then
      match b.rows[r]? with
      | some row => if o + cs.length ≤ row.length then .put id { b with rows := b.rows.set r (splice row o cs) } (.ret .any) else .fail
      | none => .fail
    else .fail
def storeA (P : Program) (t : TypeId) (a x : AV) : AP AV :=
  match a with
  | .ptr id g r o => match x.cellsOf with
    | some cs => if szOf P t = some cs.length then .get id fun b =>
        if b.inl then frzL cs fun cs' => putCells id g r o cs' else putCells id g r o cs
      else .fail
    | none => .fail
  | _ => .fail

theorem cellR_of {E : Env} {x : AV} {u : Value} {inl : Bool} (hx : Rep E x u) (h : (x.cellish && (!inl || x.isInl)) = true) : u.oneCell' = true ∧ CellR E inl x u := by
  simp only [Bool.and_eq_true] at h
  refine ⟨oneCell_of hx h.1, ?_⟩
  cases inl
  · exact hx
  · exact isInl_rep hx (by simpa using h.2)

theorem putCells_snd {P : Program} {E : Env} {H : NL ABlk} (hH : E.H = lk H) (hr : HR E) {t : TypeId} {id g r o : Nat} {cs : List AV} {va vx : Value} (ha : Rep E (.ptr id g r o) va) (hl : RepL E cs vx.cells.toList) (hs : szOf P t = some cs.length) :
    Snd P E H (putCells id g r o cs) (do Instr.storeAt t va vx; pure undef) := by
  unfold putCells
  simp only [Rep] at ha
  obtain ⟨blk, ad, hb, hle, rfl, hg⟩ := ha
  refine Snd.get (by rw [← hH]; exact hb) ?_
  split
  · rename_i h2
    obtain ⟨h2a, h2b, hall⟩ := h2
    obtain ⟨_, rfl⟩ := hg h2a
    cases hrow : blk.rows[r]? with
    | none => exact Snd.fail
    | some row =>
      dsimp only
      split
      · rename_i h3
        obtain ⟨C, hC, hcs, hsz, hlen, hrl, hcell⟩ := hr.cells hb (.inr h2b)
        have hrlen := hrl r row hrow
        have hrlt : r < blk.rows.length := (List.getElem?_eq_some_iff.1 hrow).1
        have hfit : r * blk.size + o + vx.cells.toList.length ≤ C.size := by
          rw [hl.length]
          have : (r + 1) * blk.size ≤ blk.rows.length * blk.size := Nat.mul_le_mul_right _ hrlt
          rw [Nat.add_mul] at this
          omega
        have hone' : ∀ (i : Nat) (x : AV), cs[i]? = some x → ∃ u, vx.cells.toList[i]? = some u ∧ u.oneCell' = true ∧ CellR E blk.inl x u := by
          intro i x hi
          obtain ⟨v, hv, hxv⟩ := hl.get hi
          have := cellR_of hxv (List.all_eq_true.1 hall x (List.mem_of_getElem? hi))
          exact ⟨v, hv, this.1, this.2⟩
        have hone : ∀ u ∈ vx.cells.toList, u.oneCell' = true := by
          intro u hu
          obtain ⟨i, hi⟩ := List.mem_iff_getElem?.1 hu
          have hi' : i < cs.length := by rw [← hl.length]; exact (List.getElem?_eq_some_iff.1 hi).1
          obtain ⟨v, hv, ho, _⟩ := hone' i _ (List.getElem?_eq_getElem hi')
          rw [hi] at hv; cases hv
          exact ho
        by_cases hpos : 0 < E.cs id
        · have hst := run_storeCells_at P (E.φ id) (r * blk.size + o) blk.elem vx.cells.toList 0 C E.w (hC hpos) (by simpa using hfit) hone
          simp only [Nat.add_zero] at hst
          have hsp : (C.toList.take (r * blk.size + o) ++ vx.cells.toList ++ C.toList.drop (r * blk.size + o + vx.cells.toList.length)) = splice C.toList (r * blk.size + o) vx.cells.toList := rfl
          rw [hsp] at hst
          have hfit' : r * blk.size + o + vx.cells.toList.length ≤ C.toList.length := by simpa using hfit
          obtain ⟨g1, g2⟩ := hr.write (blk' := { blk with rows := blk.rows.set r (splice row o cs) }) (C := (splice C.toList (r * blk.size + o) vx.cells.toList).toArray) (w' := E.w.setRow (E.φ id) (splice C.toList (r * blk.size + o) vx.cells.toList).toArray)
            hb h2b hpos ⟨by simp, rfl, rfl, rfl⟩ (fun b hne => setRow_other _ _ _ _ hne) (setRow_heap _ _ _ _ _ _ (hC hpos)) (by rw [List.size_toArray, splice_length hfit', Array.length_toList, hcs]) h2b (Nat.le_refl _) rfl rfl
            (by rw [List.size_toArray, splice_length hfit']; simpa using hlen)
            (fun r' row' h => by
              simp only [List.getElem?_set] at h
              split at h
              · rename_i e; subst e
                cases h
                rw [splice_length h3]; exact hrlen
              · exact hrl r' row' h)
            (fun r' row' j y h hy => by
              rw [List.getElem?_toArray, splice_get hfit']
              simp only [List.getElem?_set] at h
              split at h
              · rename_i e; subst e
                cases h
                rw [splice_get h3] at hy
                have hll := hl.length
                by_cases q1 : j < o
                · rw [if_pos q1] at hy
                  rw [if_pos (by omega)]
                  obtain ⟨u, p1, p2, p3⟩ := hcell r row j y hrow hy
                  exact ⟨u, by simpa using p1, p2, p3⟩
                · rw [if_neg q1] at hy
                  rw [if_neg (by omega)]
                  by_cases q2 : j < o + cs.length
                  · rw [if_pos q2] at hy
                    rw [if_pos (by omega)]
                    obtain ⟨u, hu, ho, hyu⟩ := hone' _ _ hy
                    exact ⟨u, by rw [← hu]; congr 1; omega, ho, hyu⟩
                  · rw [if_neg q2] at hy
                    rw [if_neg (by omega)]
                    obtain ⟨u, p1, p2, p3⟩ := hcell r row j y hrow hy
                    exact ⟨u, by simpa using p1, p2, p3⟩
              · rename_i e
                have hj : j < blk.size := by rw [← hrl r' row' h]; exact (List.getElem?_eq_some_iff.1 hy).1
                obtain ⟨u, p1, p2, p3⟩ := hcell r' row' j y h hy
                have hll := hl.length
                rcases Nat.lt_or_gt_of_ne e with e | e
                · have : (r + 1) * blk.size ≤ r' * blk.size := Nat.mul_le_mul_right _ e
                  rw [Nat.add_mul] at this
                  rw [if_neg (by omega), if_neg (by omega)]
                  exact ⟨u, by simpa using p1, p2, p3⟩
                · have := mul_lt_block (r := r') (r' := r) (s := blk.size) (j := j) e hj
                  rw [if_pos (by omega)]
                  exact ⟨u, by simpa using p1, p2, p3⟩)
          refine Snd.put_ret _ undef ?_ (by rw [hH]) g1 g2 trivial
          have hs' : (sizeOf t).run P E.w = .ok cs.length E.w := run_sizeOf' hs E.w
          have hsz' : vx.cells.size = cs.length := by have := hl.length; simpa using this
          simp [Instr.storeAt, Instr.sureAddr, storeVar, hs', hsz', hst]
        · have hC0 : C.size = 0 := by omega
          exfalso
          have : 0 < blk.rows.length * blk.size := Nat.mul_pos (by omega) hsz
          omega
      · exact Snd.fail
  · exact Snd.fail

theorem store_snd {P : Program} {E : Env} {H : NL ABlk} (hH : E.H = lk H) (hr : HR E) {t : TypeId} {a x : AV} {va vx : Value} (ha : Rep E a va) (hx : Rep E x vx) :
    Snd P E H (storeA P t a x) (do Instr.storeAt t va vx; pure undef) := by
  unfold storeA
  cases a with
  | ptr id g r o =>
    dsimp only
    cases hc : x.cellsOf with
    | none => exact Snd.fail
    | some cs =>
      dsimp only
      split
      · rename_i hs
        have hl := cellsOf_rep hc hx
        refine Snd.get' ?_
        split
        · refine frzL_snd hH hr hl fun E1 H1 cs' e1 e2 e3 e4 e5 e6 _ _ => ?_
          exact putCells_snd e2 e3 (Rep.mono e4 _ _ ha) (RepIL.rep _ _ e5) (by rw [e6]; exact hs)
        · exact putCells_snd hH hr ha hl hs
      · exact Snd.fail
  | _ => exact Snd.fail
end Go.Abs
