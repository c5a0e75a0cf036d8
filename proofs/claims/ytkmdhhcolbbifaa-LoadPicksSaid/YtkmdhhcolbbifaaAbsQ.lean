/- Small facts for walks. Conditions: none. -/
import Derived.Test.YtkmdhhcolbbifaaAbsP
import Derived.IntWalk
namespace Go.Abs
open Go

theorem map_inj {α β : Type} {f : α → β} (hf : ∀ a b, f a = f b → a = b) : ∀ {l m : List α}, l.map f = m.map f → l = m
  | [], [], _ => rfl
  | [], _ :: _, h => by simp at h
  | _ :: _, [], h => by simp at h
  | a :: r, b :: s, h => by
    simp only [List.map_cons, List.cons.injEq] at h
    rw [hf a b h.1, map_inj hf h.2]
theorem w64 {x : Int} (h1 : -9223372036854775808 ≤ x) (h2 : x ≤ 9223372036854775807) : IntKind.i64.wrap x = x := IntWalk.i64_in x ⟨h1, h2⟩
theorem w64_succ {i n : Nat} (h : i < n) (hn : n ≤ maxLen) : IntKind.i64.wrap ((i : Int) + 1) = ((i + 1 : Nat) : Int) := by
  have : maxLen = 9223372036854775807 := by rfl
  rw [w64] <;> omega
theorem w64_nat {x : Int} {n m : Nat} (e : x = (n : Int)) (h : n ≤ m) (hm : m ≤ maxLen) : IntKind.i64.wrap x = (n : Int) := by
  have : maxLen = 9223372036854775807 := by rfl
  rw [w64] <;> omega
theorem get_lt {α : Type} {l : List α} {i : Nat} (h : i < l.length) : ∃ x, l[i]? = some x := ⟨l[i], List.getElem?_eq_getElem h⟩
theorem no_specs {P : Program} : ∀ p ∈ ([] : NL Spec), FnC P p.1 p.2.fn := by simp
end Go.Abs
