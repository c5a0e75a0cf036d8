/- Comparing with nil, and pointers, abstractly. Conditions: none. -/
import Derived.Test.YtidbfifednannaaAbsGm
import Derived.LaidEql
namespace Go.Abs
open Go
set_option linter.unusedSimpArgs false

def nilB (d : TypeDesc) (x y : AV) : Option Bool := match d, x, y with
  | .pointer _, .nilp, .nilp => some true
  | .pointer _, .nilp, .ptr _ _ _ _ => some false
  | .pointer _, .ptr _ _ _ _, .nilp => some false
  | .pointer _, .nilp, .cptr _ => some false
  | .pointer _, .cptr _, .nilp => some false
  | .slice _, .nils, .nils => some true
  | .slice _, .nils, .list _ (_ :: _) => some false
  | .slice _, .list _ (_ :: _), .nils => some false
  | .slice _, .nils, .psl _ _ _ _ _ => some false
  | .slice _, .psl _ _ _ _ _, .nils => some false
  | .map _ _, .nilm, .nilm => some true
  | .map _ _, .nilm, .amap _ _ => some false
  | .map _ _, .amap _ _, .nilm => some false
  | .func _ _ _, .nilf, .nilf => some true
  | .func _ _ _, .nilf, .fn _ _ _ => some false
  | .func _ _ _, .fn _ _ _, .nilf => some false
  | _, _, _ => none
/-- What two values have to do with one another that are compared as pointers, slices, maps or functions are. -/
def EqR (P : Program) (w : World) (t : TypeId) (v u : Value) (b : Bool) : Prop :=
  (∀ (op : BinOp) (ox oy : Operand), (eqGuard op t ox oy v u).run P w = .ok () w) ∧ (∀ q, (Op.equalIn (q + 1) t v u).run P w = .ok b w) ∧
  (binOp .eql t v u = do pure (.bool (← Op.equal t v u))) ∧ (binOp .neq t v u = do pure (.bool (!(← Op.equal t v u))))
theorem EqR.eql {P : Program} {w : World} {t : TypeId} {v u : Value} {b : Bool} (h : EqR P w t v u b) (ox oy : Operand) : ((do eqGuard .eql t ox oy v u; binOp .eql t v u) : Sem Value).run P w = .ok (.bool b) w := by
  obtain ⟨h1, h2, h3, _⟩ := h
  have h2' : (Op.equal t v u).run P w = .ok b w := h2 9999
  rw [h3]
  simp [h1, h2']
theorem EqR.neq {P : Program} {w : World} {t : TypeId} {v u : Value} {b : Bool} (h : EqR P w t v u b) (ox oy : Operand) : ((do eqGuard .neq t ox oy v u; binOp .neq t v u) : Sem Value).run P w = .ok (.bool (!b)) w := by
  obtain ⟨h1, h2, _, h3⟩ := h
  have h2' : (Op.equal t v u).run P w = .ok b w := h2 9999
  rw [h3]
  simp [h1, h2']
theorem EqR.mkP {P : Program} {w : World} {t : TypeId} {a b : Option Addr} {r : Bool} (h : ∀ q, (Op.equalIn (q + 1) t (.pointer a) (.pointer b)).run P w = .ok r w) : EqR P w t (.pointer a) (.pointer b) r :=
  ⟨fun op ox oy => by cases op <;> simp [eqGuard], h, by simp [binOp], by simp [binOp]⟩
theorem EqR.mkS {P : Program} {w : World} {t : TypeId} {a b : Option Addr} {n m c d : Nat} {r : Bool} (h : ∀ q, (Op.equalIn (q + 1) t (.slice a n c) (.slice b m d)).run P w = .ok r w) : EqR P w t (.slice a n c) (.slice b m d) r :=
  ⟨fun op ox oy => by cases op <;> simp [eqGuard], h, by simp [binOp], by simp [binOp]⟩
theorem EqR.mkM {P : Program} {w : World} {t : TypeId} {a b : Option Nat} {r : Bool} (h : ∀ q, (Op.equalIn (q + 1) t (.map a) (.map b)).run P w = .ok r w) : EqR P w t (.map a) (.map b) r :=
  ⟨fun op ox oy => by cases op <;> simp [eqGuard], h, by simp [binOp], by simp [binOp]⟩
theorem nilB_run {P : Program} {E : Env} {t : TypeId} {d : TypeDesc} (hu : P.underlying t = some d) {x y : AV} {v u : Value} {b : Bool} (hx : Rep E x v) (hy : Rep E y u) (h : nilB d x y = some b) : EqR P E.w t v u b := by
  have ud : ∀ w, (underlying t).run P w = .ok d w := fun w => run_underlying' hu w
  unfold nilB at h
  split at h
  all_goals
    simp only [Option.some.injEq, reduceCtorEq] at h
    try subst h
    try simp only [Rep, RepI] at hx hy
  · subst hx; subst hy
    exact EqR.mkP (fun n => by simp [Op.equalIn, ud])
  · subst hx; obtain ⟨_, _, _, _, rfl, _⟩ := hy
    exact EqR.mkP (fun n => by simp [Op.equalIn, ud])
  · obtain ⟨_, _, _, _, rfl, _⟩ := hx; subst hy
    exact EqR.mkP (fun n => by simp [Op.equalIn, ud])
  · subst hx; obtain ⟨_, _, rfl, _⟩ := hy
    exact EqR.mkP (fun n => by simp [Op.equalIn, ud])
  · obtain ⟨_, _, rfl, _⟩ := hx; subst hy
    exact EqR.mkP (fun n => by simp [Op.equalIn, ud])
  · subst hx; subst hy
    exact EqR.mkS (fun n => by simp [Op.equalIn, ud])
  · subst hx
    rcases hy with ⟨_, hy⟩ | ⟨a, cap, rfl, _⟩
    · simp at hy
    · exact EqR.mkS (fun n => by simp [Op.equalIn, ud])
  · subst hy
    rcases hx with ⟨_, hx⟩ | ⟨a, cap, rfl, _⟩
    · simp at hx
    · exact EqR.mkS (fun n => by simp [Op.equalIn, ud])
  · subst hx; obtain ⟨_, _, _, _, _, rfl, _⟩ := hy
    exact EqR.mkS (fun n => by simp [Op.equalIn, ud])
  · obtain ⟨_, _, _, _, _, rfl, _⟩ := hx; subst hy
    exact EqR.mkS (fun n => by simp [Op.equalIn, ud])
  · subst hx; subst hy
    exact EqR.mkM (fun n => by simp [Op.equalIn, ud])
  · subst hx; obtain ⟨_, _, _, _, rfl, _⟩ := hy
    exact EqR.mkM (fun n => by simp [Op.equalIn, ud])
  · obtain ⟨_, _, _, _, rfl, _⟩ := hx; subst hy
    exact EqR.mkM (fun n => by simp [Op.equalIn, ud])
  · subst hx; subst hy
    exact ⟨fun op ox oy => by cases op <;> simp [eqGuard], fun n => by simp [Op.equalIn, ud], by simp [binOp], by simp [binOp]⟩
  · subst hx; obtain ⟨_, _, rfl, _⟩ := hy
    exact ⟨fun op ox oy => by cases op <;> simp [eqGuard], fun n => by simp [Op.equalIn, ud], by simp [binOp], by simp [binOp]⟩
  · obtain ⟨_, _, rfl, _⟩ := hx; subst hy
    exact ⟨fun op ox oy => by cases op <;> simp [eqGuard], fun n => by simp [Op.equalIn, ud], by simp [binOp], by simp [binOp]⟩

theorem addr_heap {E : Env} {H : NL ABlk} (hH : E.H = lk H) (hr : HR E) {i r : Nat} {b : ABlk} (hb : lk H i = some b) (hk : b.kind = 1 ∨ b.kind = 2) (hrl : r < b.rows.length) : 0 < E.cs i ∧ ∃ C, E.w.heap[E.φ i]? = some (.cells C b.elem (0, 0)) := by
  obtain ⟨C, hC, hcs, hsz, hle, _, _⟩ := hr.cells (by rw [hH]; exact hb) hk
  have : 0 < b.rows.length * b.size := Nat.mul_pos (by omega) hsz
  exact ⟨by omega, C, hC (by omega)⟩
/-- '==' (or, where 'ng', '!=') of pointers, slices, maps and functions. -/
def nilA (P : Program) (ng : Bool) (t : TypeId) (x y : AV) : AP AV := match P.underlying t with
  | none => .fail
  | some d => match nilB d x y with
    | some b => .ret (.bool (ng != b))
    | none => match d, x, y with
      | .slice _, .nils, .sl id g _ (_ + 1) => .get id fun b => if b.gen = g then .ret (.bool (ng != false)) else .fail
      | .slice _, .sl id g _ (_ + 1), .nils => .get id fun b => if b.gen = g then .ret (.bool (ng != false)) else .fail
      | .pointer e, .ptr i g r o, .ptr j g' r' o' => match szOf P e with
        | some (_ + 1) => .get i fun b => .get j fun b' =>
          if b.gen = g ∧ b'.gen = g' ∧ r < b.rows.length ∧ r' < b'.rows.length then .ret (.bool (ng != decide (i = j ∧ r * b.size + o = r' * b'.size + o'))) else .fail
        | _ => .fail
      | _, _, _ => .fail
theorem nil_snd {P : Program} {E : Env} {H : NL ABlk} (hH : E.H = lk H) (hr : HR E) {t : TypeId} {ox oy : Operand} {x y : AV} {v u : Value} (hx : Rep E x v) (hy : Rep E y u) :
    Snd P E H (nilA P false t x y) (do eqGuard .eql t ox oy v u; binOp .eql t v u) ∧ Snd P E H (nilA P true t x y) (do eqGuard .neq t ox oy v u; binOp .neq t v u) := by
  have fin : ∀ {b : Bool}, EqR P E.w t v u b → Snd P E H (.ret (.bool (false != b))) (do eqGuard .eql t ox oy v u; binOp .eql t v u) ∧ Snd P E H (.ret (.bool (true != b))) (do eqGuard .neq t ox oy v u; binOp .neq t v u) := fun {b} h =>
    ⟨by rw [show (false != b) = b by cases b <;> rfl]; exact Snd.retBool hH hr (h.eql ox oy), by rw [show (true != b) = !b by cases b <;> rfl]; exact Snd.retBool hH hr (h.neq ox oy)⟩
  unfold nilA
  cases hu : P.underlying t with
  | none => exact ⟨Snd.fail, Snd.fail⟩
  | some d =>
    have ud : ∀ w, (underlying t).run P w = .ok d w := fun w => run_underlying' hu w
    dsimp only
    cases hb : nilB d x y with
    | some b => exact fin (nilB_run hu hx hy hb)
    | none =>
      dsimp only
      split
      · rename_i e id g off n
        simp only [Rep] at hx hy
        subst hx
        obtain ⟨blk, a, len', cap, hbk, hle, rfl, hg⟩ := hy
        rw [hH] at hbk
        have key : blk.gen = g → EqR P E.w t (.slice none 0 0) (.slice a len' cap) false := fun e0 => by
          obtain ⟨_, rfl, h2, h3, h4⟩ := hg e0
          obtain ⟨rfl, _⟩ := h4 (by omega)
          exact EqR.mkS (fun n => by simp [Op.equalIn, ud])
        refine ⟨Snd.get hbk ?_, Snd.get hbk ?_⟩
        · split
          · rename_i e0; exact (fin (key e0)).1
          · exact Snd.fail
        · split
          · rename_i e0; exact (fin (key e0)).2
          · exact Snd.fail
      · rename_i e id g off n
        simp only [Rep] at hx hy
        subst hy
        obtain ⟨blk, a, len', cap, hbk, hle, rfl, hg⟩ := hx
        rw [hH] at hbk
        have key : blk.gen = g → EqR P E.w t (.slice a len' cap) (.slice none 0 0) false := fun e0 => by
          obtain ⟨_, rfl, h2, h3, h4⟩ := hg e0
          obtain ⟨rfl, _⟩ := h4 (by omega)
          exact EqR.mkS (fun n => by simp [Op.equalIn, ud])
        refine ⟨Snd.get hbk ?_, Snd.get hbk ?_⟩
        · split
          · rename_i e0; exact (fin (key e0)).1
          · exact Snd.fail
        · split
          · rename_i e0; exact (fin (key e0)).2
          · exact Snd.fail
      · rename_i e i g r o j g' r' o'
        cases hs : szOf P e with
        | none => exact ⟨Snd.fail, Snd.fail⟩
        | some s =>
          cases s with
          | zero => exact ⟨Snd.fail, Snd.fail⟩
          | succ s =>
            dsimp only
            simp only [Rep] at hx hy
            obtain ⟨b1, a1, hb1, hle1, rfl, hg1⟩ := hx
            obtain ⟨b2, a2, hb2, hle2, rfl, hg2⟩ := hy
            have key : b1.gen = g ∧ b2.gen = g' ∧ r < b1.rows.length ∧ r' < b2.rows.length → EqR P E.w t (.pointer (some a1)) (.pointer (some a2)) (decide (i = j ∧ r * b1.size + o = r' * b2.size + o')) := by
              rintro ⟨q1, q2, q3, q4⟩
              obtain ⟨k1, rfl⟩ := hg1 q1
              obtain ⟨k2, rfl⟩ := hg2 q2
              obtain ⟨c1, C1, h1⟩ := addr_heap hH hr (by rw [← hH]; exact hb1) k1 q3
              obtain ⟨c2, C2, h2⟩ := addr_heap hH hr (by rw [← hH]; exact hb2) k2 q4
              refine EqR.mkP (fun n => ?_)
              by_cases he : i = j ∧ r * b1.size + o = r' * b2.size + o'
              · obtain ⟨rfl, he⟩ := he
                rw [hb1] at hb2; cases hb2
                simp only [he, and_self, decide_true]
                simp [Op.equalIn, ud, run_sizeOf' hs, run_sameAddr_same]
              · have hne : (⟨E.φ i, r * b1.size + o, none⟩ : Addr) ≠ ⟨E.φ j, r' * b2.size + o', none⟩ := by
                  intro e
                  simp only [Addr.mk.injEq, and_true] at e
                  obtain ⟨e1, e2⟩ := e
                  by_cases hij : i = j
                  · exact he ⟨hij, e2⟩
                  · exact hr.inj i j b1 b2 hb1 hb2 (by omega) (by omega) c1 c2 hij e1
                have := run_sameAddr_other (P := P) E.w hne h1 h2
                simp only [he, decide_false]
                simp [Op.equalIn, ud, run_sizeOf' hs, this]
            refine ⟨Snd.get (by rw [← hH]; exact hb1) (Snd.get (by rw [← hH]; exact hb2) ?_), Snd.get (by rw [← hH]; exact hb1) (Snd.get (by rw [← hH]; exact hb2) ?_)⟩
            · split
              · rename_i q; exact (fin (key q)).1
              · exact Snd.fail
            · split
              · rename_i q; exact (fin (key q)).2
              · exact Snd.fail
      · exact ⟨Snd.fail, Snd.fail⟩
end Go.Abs
