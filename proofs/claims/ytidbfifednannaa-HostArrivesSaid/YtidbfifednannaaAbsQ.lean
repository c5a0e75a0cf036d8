/- Small facts for walks. Conditions: none. -/
import Derived.Test.YtidbfifednannaaAbsP
import Derived.IntWalk
namespace Go.Abs
open Go

theorem map_inj {α β : Type} {f : α → β} (hf : ∀ a b, f a = f b → a = b) : ∀ {l m : List α}, l.map f = m.map f → l = m
  | [], [], _ => rfl
  | [], _ :: _, h => by simp at h
  | _ :: _, [], h => by simp at h
  | a :: r, b :: s, h => by
    simp only [List.map_cons, List.cons.injEq] at h
    rw [hf a b h.1, map_inj hf h.2]
theorem w64 {x : Int} (h1 : -9223372036854775808 ≤ x) (h2 : x ≤ 9223372036854775807) : IntKind.i64.wrap x = x := IntWalk.i64_in x ⟨h1, h2⟩
theorem wu64 {x : Int} (h1 : 0 ≤ x) (h2 : x ≤ 18446744073709551615) : IntKind.u64.wrap x = x := IntWalk.u64_in x ⟨h1, h2⟩
theorem w64_succ {i n : Nat} (h : i < n) (hn : n ≤ maxLen) : IntKind.i64.wrap ((i : Int) + 1) = ((i + 1 : Nat) : Int) := by
  have : maxLen = 9223372036854775807 := by rfl
  rw [w64] <;> omega
theorem w64_nat {x : Int} {n m : Nat} (e : x = (n : Int)) (h : n ≤ m) (hm : m ≤ maxLen) : IntKind.i64.wrap x = (n : Int) := by
  have : maxLen = 9223372036854775807 := by rfl
  rw [w64] <;> omega
theorem get_lt {α : Type} {l : List α} {i : Nat} (h : i < l.length) : ∃ x, l[i]? = some x := ⟨l[i], List.getElem?_eq_getElem h⟩
theorem no_specs {P : Program} : ∀ p ∈ ([] : NL Spec), FnC P p.1 p.2.fn := by simp
/-! ### Kinds of abstract values, by constructor -/
@[simp] theorem cellish_bool (b : Bool) : AV.cellish (AV.bool b) = true := (rfl)
@[simp] theorem isInl_bool (b : Bool) : AV.isInl (AV.bool b) = true := (rfl)
@[simp] theorem flat1_bool (b : Bool) : AV.flat1 (AV.bool b) = true := (rfl)
@[simp] theorem cellish_int (k : IntKind) (n : Int) : AV.cellish (AV.int k n) = true := (rfl)
@[simp] theorem isInl_int (k : IntKind) (n : Int) : AV.isInl (AV.int k n) = true := (rfl)
@[simp] theorem flat1_int (k : IntKind) (n : Int) : AV.flat1 (AV.int k n) = true := (rfl)
@[simp] theorem cellish_str (s : ByteArray) : AV.cellish (AV.str s) = true := (rfl)
@[simp] theorem isInl_str (s : ByteArray) : AV.isInl (AV.str s) = true := (rfl)
@[simp] theorem flat1_str (s : ByteArray) : AV.flat1 (AV.str s) = true := (rfl)
@[simp] theorem cellish_nilp : AV.cellish (AV.nilp) = true := (rfl)
@[simp] theorem isInl_nilp : AV.isInl (AV.nilp) = true := (rfl)
@[simp] theorem flat1_nilp : AV.flat1 (AV.nilp) = true := (rfl)
@[simp] theorem cellish_cptr (cs : List AV) : AV.cellish (AV.cptr cs) = true := (rfl)
@[simp] theorem isInl_cptr (cs : List AV) : AV.isInl (AV.cptr cs) = true := (rfl)
@[simp] theorem flat1_cptr (cs : List AV) : AV.flat1 (AV.cptr cs) = false := (rfl)
@[simp] theorem cellish_nils : AV.cellish (AV.nils) = true := (rfl)
@[simp] theorem isInl_nils : AV.isInl (AV.nils) = true := (rfl)
@[simp] theorem flat1_nils : AV.flat1 (AV.nils) = true := (rfl)
@[simp] theorem cellish_list (z : Nat) (rows : List (List AV)) : AV.cellish (AV.list z rows) = true := (rfl)
@[simp] theorem isInl_list (z : Nat) (rows : List (List AV)) : AV.isInl (AV.list z rows) = true := (rfl)
@[simp] theorem flat1_list (z : Nat) (rows : List (List AV)) : AV.flat1 (AV.list z rows) = false := (rfl)
@[simp] theorem cellish_nilf : AV.cellish (AV.nilf) = true := (rfl)
@[simp] theorem isInl_nilf : AV.isInl (AV.nilf) = true := (rfl)
@[simp] theorem flat1_nilf : AV.flat1 (AV.nilf) = true := (rfl)
@[simp] theorem cellish_nilm : AV.cellish (AV.nilm) = true := (rfl)
@[simp] theorem isInl_nilm : AV.isInl (AV.nilm) = true := (rfl)
@[simp] theorem flat1_nilm : AV.flat1 (AV.nilm) = true := (rfl)
@[simp] theorem cellish_ptr (i : Nat) (g : Nat) (r : Nat) (o : Nat) : AV.cellish (AV.ptr i g r o) = true := (rfl)
@[simp] theorem isInl_ptr (i : Nat) (g : Nat) (r : Nat) (o : Nat) : AV.isInl (AV.ptr i g r o) = false := (rfl)
@[simp] theorem flat1_ptr (i : Nat) (g : Nat) (r : Nat) (o : Nat) : AV.flat1 (AV.ptr i g r o) = false := (rfl)
@[simp] theorem cellish_sl (i : Nat) (g : Nat) (o : Nat) (l : Nat) : AV.cellish (AV.sl i g o l) = true := (rfl)
@[simp] theorem isInl_sl (i : Nat) (g : Nat) (o : Nat) (l : Nat) : AV.isInl (AV.sl i g o l) = false := (rfl)
@[simp] theorem flat1_sl (i : Nat) (g : Nat) (o : Nat) (l : Nat) : AV.flat1 (AV.sl i g o l) = false := (rfl)
@[simp] theorem cellish_amap (i : Nat) (g : Nat) : AV.cellish (AV.amap i g) = true := (rfl)
@[simp] theorem isInl_amap (i : Nat) (g : Nat) : AV.isInl (AV.amap i g) = false := (rfl)
@[simp] theorem flat1_amap (i : Nat) (g : Nat) : AV.flat1 (AV.amap i g) = false := (rfl)
@[simp] theorem cellish_psl (i : Nat) (g : Nat) (r : Nat) (o : Nat) (l : Nat) : AV.cellish (AV.psl i g r o l) = true := (rfl)
@[simp] theorem cellish_slc (i : Nat) (g : Nat) (r : Nat) (o : Nat) (l : Nat) : AV.cellish (AV.slc i g r o l) = false := (rfl)
@[simp] theorem isInl_psl (i : Nat) (g : Nat) (r : Nat) (o : Nat) (l : Nat) : AV.isInl (AV.psl i g r o l) = false := (rfl)
@[simp] theorem isInl_slc (i : Nat) (g : Nat) (r : Nat) (o : Nat) (l : Nat) : AV.isInl (AV.slc i g r o l) = false := (rfl)
@[simp] theorem flat1_psl (i : Nat) (g : Nat) (r : Nat) (o : Nat) (l : Nat) : AV.flat1 (AV.psl i g r o l) = false := (rfl)
@[simp] theorem flat1_slc (i : Nat) (g : Nat) (r : Nat) (o : Nat) (l : Nat) : AV.flat1 (AV.slc i g r o l) = false := (rfl)
@[simp] theorem cellish_fn (f : Fn) (a b : List AV) : AV.cellish (.fn f a b) = true := (rfl)
@[simp] theorem isInl_fn (f : Fn) : AV.isInl (.fn f [] []) = true := (rfl)
@[simp] theorem cellish_agg (cs : List AV) : AV.cellish (.agg cs) = false := (rfl)
@[simp] theorem isInl_agg (cs : List AV) : AV.isInl (.agg cs) = false := (rfl)
@[simp] theorem isInl_tup (cs : List AV) : AV.isInl (.tup cs) = false := (rfl)
@[simp] theorem cellish_tup (cs : List AV) : AV.cellish (.tup cs) = false := (rfl)
@[simp] theorem cellish_any : AV.cellish .any = false := (rfl)
theorem nat_not_neg (k : Nat) : ¬ (k : Int) < 0 := by omega
/-! ### Lists of numbers as cells -/
theorem frzL_ints (kd : IntKind) : ∀ (l : List Int) (k : List AV → AP AV), frzL (l.map (AV.int kd)) k = k (l.map (AV.int kd))
  | [], _ => rfl
  | a :: l, k => by simp [frzL, frz1, frzL_ints kd l]
theorem brwL_ints (kd : IntKind) : ∀ (l : List Int) (k : List AV → AP AV), brwL (l.map (AV.int kd)) k = k (l.map (AV.int kd))
  | [], _ => rfl
  | a :: l, k => by simp [brwL, brw1, brwL_ints kd l]
theorem frz1_inl {x : AV} (h : x.isInl = true) (k : AV → AP AV) : frz1 x k = k x := by
  unfold frz1
  split
  · simp at h
  · rw [if_pos h]
theorem brw1_inl {x : AV} (h : x.isInl = true) (k : AV → AP AV) : brw1 x k = k x := by
  unfold brw1
  split
  · simp at h
  · rw [if_pos h]
/-- Data through and through. -/
def AV.inl2 : AV → Bool
  | .agg cs => cs.all AV.isInl
  | x => x.isInl
@[simp] theorem inl2_agg (cs : List AV) : AV.inl2 (.agg cs) = cs.all AV.isInl := (rfl)
@[simp] theorem inl2_fn (f : Fn) : AV.inl2 (.fn f [] []) = true := (rfl)
@[simp] theorem inl2_tup (cs : List AV) : AV.inl2 (.tup cs) = false := (rfl)
@[simp] theorem inl2_bool (b : Bool) : AV.inl2 (AV.bool b) = true := (rfl)
@[simp] theorem inl2_int (k : IntKind) (n : Int) : AV.inl2 (AV.int k n) = true := (rfl)
@[simp] theorem inl2_str (s : ByteArray) : AV.inl2 (AV.str s) = true := (rfl)
@[simp] theorem inl2_nilp : AV.inl2 (AV.nilp) = true := (rfl)
@[simp] theorem inl2_cptr (cs : List AV) : AV.inl2 (AV.cptr cs) = true := (rfl)
@[simp] theorem inl2_nils : AV.inl2 (AV.nils) = true := (rfl)
@[simp] theorem inl2_list (z : Nat) (rows : List (List AV)) : AV.inl2 (AV.list z rows) = true := (rfl)
@[simp] theorem inl2_nilf : AV.inl2 (AV.nilf) = true := (rfl)
@[simp] theorem inl2_nilm : AV.inl2 (AV.nilm) = true := (rfl)
@[simp] theorem inl2_ptr (i : Nat) (g : Nat) (r : Nat) (o : Nat) : AV.inl2 (AV.ptr i g r o) = false := (rfl)
@[simp] theorem inl2_sl (i : Nat) (g : Nat) (o : Nat) (l : Nat) : AV.inl2 (AV.sl i g o l) = false := (rfl)
@[simp] theorem inl2_amap (i : Nat) (g : Nat) : AV.inl2 (AV.amap i g) = false := (rfl)
@[simp] theorem inl2_psl (i : Nat) (g : Nat) (r : Nat) (o : Nat) (l : Nat) : AV.inl2 (AV.psl i g r o l) = false := (rfl)
@[simp] theorem inl2_slc (i : Nat) (g : Nat) (r : Nat) (o : Nat) (l : Nat) : AV.inl2 (AV.slc i g r o l) = false := (rfl)
@[simp high] theorem frzL_inl : ∀ {l : List AV} (_ : l.all AV.isInl = true) (k : List AV → AP AV), frzL l k = k l
  | [], _, _ => rfl
  | x :: l, h, k => by
    simp only [List.all_cons, Bool.and_eq_true] at h
    simp only [frzL]
    rw [frz1_inl h.1, frzL_inl h.2]
@[simp high] theorem brwL_inl : ∀ {l : List AV} (_ : l.all AV.isInl = true) (k : List AV → AP AV), brwL l k = k l
  | [], _, _ => rfl
  | x :: l, h, k => by
    simp only [List.all_cons, Bool.and_eq_true] at h
    simp only [brwL]
    rw [brw1_inl h.1, brwL_inl h.2]
theorem inl2_cases {x : AV} (h : x.inl2 = true) : (∃ cs, x = .agg cs ∧ cs.all AV.isInl = true) ∨ (∃ f, x = .fn f [] []) ∨ (x.isInl = true ∧ (∀ cs, x ≠ .agg cs) ∧ (∀ cs, x ≠ .tup cs) ∧ ∀ f a b, x ≠ .fn f a b) := by
  cases x with
  | agg cs => exact .inl ⟨cs, rfl, h⟩
  | fn f a b =>
    cases a <;> cases b <;> first
      | exact .inr (.inl ⟨f, rfl⟩)
      | cases h
  | tup cs => cases h
  | _ => exact .inr (.inr ⟨h, by simp, by simp, by simp⟩)
@[simp high] theorem frzV_inl {x : AV} (h : x.inl2 = true) (k : AV → AP AV) : frzV x k = k x := by
  rcases inl2_cases h with ⟨cs, rfl, h⟩ | ⟨f, rfl⟩ | ⟨h, h1, h2, h3⟩
  · simp only [frzV]; exact frzL_inl h _
  · rfl
  · unfold frzV
    split
    · exact absurd rfl (h1 _)
    · exact absurd rfl (h2 _)
    · exact absurd rfl (h3 _ _ _)
    · exact frz1_inl h k
@[simp high] theorem brwV_inl {x : AV} (h : x.inl2 = true) (k : AV → AP AV) : brwV x k = k x := by
  rcases inl2_cases h with ⟨cs, rfl, h⟩ | ⟨f, rfl⟩ | ⟨h, h1, h2, h3⟩
  · simp only [brwV]; exact brwL_inl h _
  · rfl
  · unfold brwV
    split
    · exact absurd rfl (h1 _)
    · exact absurd rfl (h2 _)
    · exact absurd rfl (h3 _ _ _)
    · exact brw1_inl h k
@[simp high] theorem frzVs_inl : ∀ {l : List AV} (_ : l.all AV.inl2 = true) (k : List AV → AP AV), frzVs l k = k l
  | [], _, _ => rfl
  | x :: l, h, k => by
    simp only [List.all_cons, Bool.and_eq_true] at h
    simp only [frzVs]
    rw [frzV_inl h.1, frzVs_inl h.2]
@[simp high] theorem brwVs_inl : ∀ {l : List AV} (_ : l.all AV.inl2 = true) (k : List AV → AP AV), brwVs l k = k l
  | [], _, _ => rfl
  | x :: l, h, k => by
    simp only [List.all_cons, Bool.and_eq_true] at h
    simp only [brwVs]
    rw [brwV_inl h.1, brwVs_inl h.2]
@[simp high] theorem frzP_inl : ∀ {l : List (Nat × AV)} (_ : l.all (fun p => p.2.inl2) = true) (k : List (Nat × AV) → AP AV), frzP l k = k l
  | [], _, _ => rfl
  | (i, x) :: l, h, k => by
    simp only [List.all_cons, Bool.and_eq_true] at h
    simp only [frzP]
    rw [frzV_inl h.1, frzP_inl h.2]
theorem mkv_drop {P : Program} {t : TypeId} (ha : aggT P t = some false) (l : List AV) (k : Nat) : mkv P t (l.drop k) = match l[k]? with
    | some x => .ret x
    | none => .fail := by
  unfold mkv
  rw [ha, ← List.head?_drop]
  cases l.drop k <;> rfl
theorem get_1_add {α : Type} (a : α) (l : List α) (k : Nat) : (a :: l)[1 + k]? = l[k]? := by rw [Nat.add_comm]; rfl
theorem take_1_add {α : Type} (a : α) (l : List α) (k : Nat) : (a :: l).take (1 + k) = a :: l.take k := by rw [Nat.add_comm]; rfl
theorem set_map {α β : Type} (f : α → β) (l : List α) (k : Nat) (v : α) (h : k < l.length) : (l.map f).take k ++ f v :: (l.map f).drop (1 + k) = (l.set k v).map f := by
  simp [List.set_eq_take_append_cons_drop, h, List.map_take, List.map_drop, Nat.add_comm]
end Go.Abs
