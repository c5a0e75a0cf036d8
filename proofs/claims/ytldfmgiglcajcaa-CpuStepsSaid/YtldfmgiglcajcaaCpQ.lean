/- The statement on what one step changes, in the abstract frame. Conditions: none. -/
import Derived.Test.YtldfmgiglcajcaaCpO
namespace Go.Abs.Cp
open Go Go.Proofs Go.Abs
set_option maxRecDepth 100000
set_option maxHeartbeats 4000000
set_option linter.unusedSimpArgs false
set_option linter.unusedVariables false
def diff (c d : Cpu) : Nat → Nat
  | 0 => 0
  | i + 1 => diff c d i + (if d.get i = c.get i then 0 else 1)
theorem diff_le {c d : Cpu} {k : Nat} (h : ∀ i, i ≠ k → d.get i = c.get i) : ∀ n, diff c d n ≤ if k < n then 1 else 0
  | 0 => by simp [diff]
  | n + 1 => by
    have ih := diff_le h n
    simp only [diff]
    by_cases e : n = k
    · subst e
      simp only [Nat.lt_irrefl, if_false] at ih
      rw [if_pos (show n < n + 1 by omega)]
      have : (if d.get n = c.get n then 0 else 1) ≤ 1 := by split <;> omega
      omega
    · rw [if_pos (h n e)]
      by_cases q : k < n
      · rw [if_pos q] at ih; rw [if_pos (show k < n + 1 by omega)]; omega
      · rw [if_neg q] at ih; omega
theorem set_get (c : Cpu) (k : Nat) (v : Int) {i : Nat} (h : i ≠ k) : ((stored c).set k v).get i = c.get i := by
  have h' : ¬ k = i := fun e => h e.symm
  simp [Cpu.set, stored, Cpu.get, List.getD_eq_getElem?_getD, List.getElem?_set, h']
theorem ite_p {α : Type} {p : α → Prop} {c : Prop} [Decidable c] {a b : α} (ha : p a) (hb : p b) : p (if c then a else b) := by
  by_cases h : c
  · rw [if_pos h]; exact ha
  · rw [if_neg h]; exact hb
theorem exec_ind {p : Res → Prop} (c : Cpu) (x : Ins) (hs : ∀ v, p ((stored c).set x.a.toNat v, [0, 0, 0, 0, 0, 0, 0, 0])) (ht : p (stored c, [0, 0, 0, 0, 0, 0, 0, 0])) (hg : ∀ n, p (c.goto n, [0, 0, 0, 0, 0, 0, 0, 0])) (hc : ∀ a l, a = 1 ∨ a = 2 ∨ a = 3 → p (c, a :: l)) : p (exec c x) := by
  unfold exec
  refine ite_p (hs _) (ite_p (hs _) (ite_p (hs _) (ite_p (hs _) (ite_p (hs _) (ite_p (hs _) (ite_p (hs _) (ite_p (hg _) (ite_p ?_ (ite_p (hc _ _ (.inl rfl)) (ite_p (hc _ _ (.inr (.inl rfl))) (ite_p (hc _ _ (.inr (.inr rfl))) ht)))))))))))
  by_cases q : c.get x.a.toNat = 0
  · rw [if_pos q]; exact ht
  · rw [if_neg q]; exact hg _
theorem exec_law (c : Cpu) (x : Ins) : (∃ k, ∀ i, i ≠ k → (exec c x).1.get i = c.get i) ∧ ((exec c x).2.getD 0 0 = 0 ∨ (exec c x).1 = c) ∧ (exec c x).2.getD 0 0 ≠ 4 :=
  exec_ind (p := fun r => (∃ k, ∀ i, i ≠ k → r.1.get i = c.get i) ∧ (r.2.getD 0 0 = 0 ∨ r.1 = c) ∧ r.2.getD 0 0 ≠ 4) c x
    (fun v => ⟨⟨x.a.toNat, fun i h => set_get c _ _ h⟩, .inl rfl, by simp⟩)
    ⟨⟨0, fun i h => rfl⟩, .inl rfl, by simp⟩
    (fun n => ⟨⟨0, fun i h => rfl⟩, .inl rfl, by simp⟩)
    (fun a l h => ⟨⟨0, fun i h => rfl⟩, .inr rfl, by rcases h with rfl | rfl | rfl <;> simp⟩)
theorem next_law (c : Cpu) (code : List Ins) (h0 : 0 ≤ c.pc) (h1 : c.pc ≤ code.length) (hab : ∀ i ∈ code, able i = true) : diff c (next c code).1 8 ≤ 1 ∧ ((next c code).2.getD 0 0 = 0 ∨ (next c code).1 = c) ∧ ((next c code).2.getD 0 0 == 4) = (c.pc == (code.length : Int)) := by
  have key : (∃ k, ∀ i, i ≠ k → (next c code).1.get i = c.get i) ∧ ((next c code).2.getD 0 0 = 0 ∨ (next c code).1 = c) ∧ ((next c code).2.getD 0 0 == 4) = (c.pc == (code.length : Int)) := by
    unfold next
    rw [if_neg (by omega)]
    cases hx : code[c.pc.toNat]? with
    | none =>
      have := List.getElem?_eq_none_iff.1 hx
      have e : c.pc = code.length := by omega
      exact ⟨⟨0, fun i h => rfl⟩, .inr rfl, by simp [fault, e]⟩
    | some x =>
      have hl := (List.getElem?_eq_some_iff.1 hx).1
      dsimp only
      rw [if_pos (hab x (List.mem_of_getElem? hx))]
      obtain ⟨g1, g2, g3⟩ := exec_law c x
      refine ⟨g1, g2, ?_⟩
      have e : ¬ c.pc = code.length := by omega
      rw [beq_false_of_ne g3, beq_false_of_ne e]
  obtain ⟨⟨k, hk⟩, h2, h3⟩ := key
  refine ⟨?_, h2, h3⟩
  have := diff_le hk 8
  split at this <;> omega
end Go.Abs.Cp
