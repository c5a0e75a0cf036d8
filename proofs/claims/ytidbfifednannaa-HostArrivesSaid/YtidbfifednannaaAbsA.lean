/- Abstract values and memory for Go runs: what a value in memory represents, and that it lasts. Conditions: none. -/
import Derived.Calls
import Derived.Orders
import Derived.Laws.World
import Derived.Laws.Sem
import GoSem.ClaimData
namespace Go.Abs
open Go

/-- An abstract value: data as trees; references into abstract blocks bear the block's number and its generation. -/
inductive AV where
  | any
  | bool (b : Bool)
  | int (k : IntKind) (n : Int)
  | str (s : ByteArray)
  | nilp
  | ptr (id gen row off : Nat)
  | cptr (cells : List AV)
  | nils
  | sl (id gen off len : Nat)
  | list (size : Nat) (rows : List (List AV))
  | nilf
  | fn (f : Fn) (first caps : List AV)
  | nilm
  | amap (id gen : Nat)
  | psl (id gen row off len : Nat)
  | slc (id gen off len cap : Nat)
  | agg (cells : List AV)
  | tup (vs : List AV)
  deriving Inhabited

/-- An abstract block. kind 0: nothing; 1: cells that stay; 2: cells that may be written; 3: a map that may be written. -/
structure ABlk where
  gen : Nat := 0
  kind : Nat := 0
  elem : TypeId := 0
  size : Nat := 0
  inl : Bool := false
  rows : List (List AV) := []
  deriving Inhabited

/- Data that never changes, told without any abstract block. -/
mutual
def RepI (w : World) (I : Nat → Prop) : AV → Value → Prop
  | .any, _ => True
  | .bool b, v => v = .bool b
  | .int k n, v => v = .int k n
  | .str s, v => v = .string s
  | .nilp, v => v = .pointer none
  | .ptr _ _ _ _, _ => False
  | .cptr cells, v => ∃ b off, v = .pointer (some ⟨b, off, none⟩) ∧ I b ∧ RepC w I cells b off
  | .nils, v => v = .slice none 0 0
  | .sl _ _ _ _, _ => False
  | .list size rows, v => (v = .slice none 0 0 ∧ rows = []) ∨ ∃ a cap, v = .slice (some a) rows.length cap ∧ rows.length ≤ cap ∧ cap ≤ maxLen ∧ (rows ≠ [] → a.spot = none ∧ I a.block) ∧ RepRows w I rows a.block a.off size
  | .nilf, v => v = .nilFunc
  | .fn f first caps, v => ∃ fs cs, v = .func f fs cs ∧ RepIL w I first fs.toList ∧ RepIL w I caps cs.toList
  | .nilm, v => v = .map none
  | .amap _ _, _ => False
  | .psl _ _ _ _ _, _ => False
  | .slc _ _ _ _ _, _ => False
  | .agg cells, v => ∃ cs, v = .agg cs ∧ RepIL w I cells cs.toList
  | .tup vs, v => ∃ cs, v = .tuple cs ∧ RepIL w I vs cs.toList
def RepIL (w : World) (I : Nat → Prop) : List AV → List Value → Prop
  | [], vs => vs = []
  | x :: r, vs => ∃ v vs', vs = v :: vs' ∧ RepI w I x v ∧ RepIL w I r vs'
def RepC (w : World) (I : Nat → Prop) : List AV → Nat → Nat → Prop
  | [], _, _ => True
  | x :: r, b, off => (∃ u, w.cell? ⟨b, off, none⟩ = some u ∧ u.oneCell' = true ∧ RepI w I x u) ∧ RepC w I r b (off + 1)
def RepRows (w : World) (I : Nat → Prop) : List (List AV) → Nat → Nat → Nat → Prop
  | [], _, _, _ => True
  | row :: r, b, off, size => row.length = size ∧ RepC w I row b off ∧ RepRows w I r b (off + size) size
end

structure Env where
  w : World
  H : Nat → Option ABlk
  φ : Nat → Nat
  cs : Nat → Nat
  F : Nat → Prop

/-- A block that nobody here may write. -/
def Env.imm (E : Env) (b : Nat) : Prop :=
  b < E.w.heap.size ∧ ¬ E.F b ∧ ∀ id blk, E.H id = some blk → 2 ≤ blk.kind → 0 < E.cs id → E.φ id ≠ b

mutual
def Rep (E : Env) : AV → Value → Prop
  | .any, _ => True
  | .bool b, v => v = .bool b
  | .int k n, v => v = .int k n
  | .str s, v => v = .string s
  | .nilp, v => v = .pointer none
  | .ptr id g r o, v => ∃ blk a, E.H id = some blk ∧ g ≤ blk.gen ∧ v = .pointer (some a) ∧ (blk.gen = g → (blk.kind = 1 ∨ blk.kind = 2) ∧ a = ⟨E.φ id, r * blk.size + o, none⟩)
  | .cptr cells, v => RepI E.w E.imm (.cptr cells) v
  | .nils, v => v = .slice none 0 0
  | .sl id g off len, v => ∃ blk a len' cap, E.H id = some blk ∧ g ≤ blk.gen ∧ v = .slice a len' cap ∧ (blk.gen = g → (blk.kind = 1 ∨ blk.kind = 2) ∧ len' = len ∧ len ≤ cap ∧ cap ≤ maxLen ∧ (0 < cap → a = some ⟨E.φ id, off * blk.size, none⟩ ∧ (off + cap) * blk.size ≤ E.cs id))
  | .list size rows, v => RepI E.w E.imm (.list size rows) v
  | .nilf, v => v = .nilFunc
  | .fn f first caps, v => ∃ fs cs, v = .func f fs cs ∧ RepL E first fs.toList ∧ RepL E caps cs.toList
  | .nilm, v => v = .map none
  | .amap id g, v => ∃ blk r, E.H id = some blk ∧ g ≤ blk.gen ∧ v = .map (some r) ∧ (blk.gen = g → blk.kind = 3 ∧ r = E.φ id)
  | .slc id g off len cap, v => ∃ blk a len' cap', E.H id = some blk ∧ g ≤ blk.gen ∧ v = .slice a len' cap' ∧ (blk.gen = g → (blk.kind = 1 ∨ blk.kind = 2) ∧ len' = len ∧ cap' = cap ∧ len ≤ cap ∧ cap ≤ maxLen ∧ (0 < cap → a = some ⟨E.φ id, off * blk.size, none⟩ ∧ (off + cap) * blk.size ≤ E.cs id))
  | .psl id g r o len, v => ∃ blk a cap, E.H id = some blk ∧ g ≤ blk.gen ∧ v = .slice (some a) len cap ∧ (blk.gen = g → (blk.kind = 1 ∨ blk.kind = 2) ∧ a = ⟨E.φ id, r * blk.size + o, none⟩)
  | .agg cells, v => ∃ cs, v = .agg cs ∧ RepL E cells cs.toList
  | .tup vs, v => ∃ cs, v = .tuple cs ∧ RepL E vs cs.toList
def RepL (E : Env) : List AV → List Value → Prop
  | [], vs => vs = []
  | x :: r, vs => ∃ v vs', vs = v :: vs' ∧ Rep E x v ∧ RepL E r vs'
end

/-! ### Inline data lasts -/
section
variable {w w' : World} {I I' : Nat → Prop}
mutual
theorem RepI.mono (s : ∀ b, I b → I' b ∧ w'.heap[b]? = w.heap[b]?) : (x : AV) → (v : Value) → RepI w I x v → RepI w' I' x v
  | .any, _, _ => trivial
  | .bool _, _, h => h
  | .int _ _, _, h => h
  | .str _, _, h => h
  | .nilp, _, h => h
  | .ptr _ _ _ _, _, h => h.elim
  | .cptr cells, v, h => by
    simp only [RepI] at h ⊢
    obtain ⟨b, off, hv, hi, hc⟩ := h
    exact ⟨b, off, hv, (s b hi).1, RepC.mono s hi cells off hc⟩
  | .nils, _, h => h
  | .sl _ _ _ _, _, h => h.elim
  | .list size rows, v, h => by
    simp only [RepI] at h ⊢
    rcases h with h | ⟨a, cap, hv, h1, h2, h3, h4⟩
    · exact .inl h
    · refine .inr ⟨a, cap, hv, h1, h2, fun hn => ⟨(h3 hn).1, (s _ (h3 hn).2).1⟩, ?_⟩
      cases rows with
      | nil => simp only [RepRows]
      | cons r rs => exact RepRows.mono s (h3 (by simp)).2 _ _ _ h4
  | .nilf, _, h => h
  | .fn f first caps, v, h => by
    simp only [RepI] at h ⊢
    obtain ⟨fs, cs, hv, h1, h2⟩ := h
    exact ⟨fs, cs, hv, RepIL.mono s _ _ h1, RepIL.mono s _ _ h2⟩
  | .nilm, _, h => h
  | .amap _ _, _, h => h.elim
  | .psl _ _ _ _ _, _, h => h.elim
  | .slc _ _ _ _ _, _, h => h.elim
  | .agg cells, v, h => by
    simp only [RepI] at h ⊢
    obtain ⟨cs, hv, h1⟩ := h
    exact ⟨cs, hv, RepIL.mono s _ _ h1⟩
  | .tup cells, v, h => by
    simp only [RepI] at h ⊢
    obtain ⟨cs, hv, h1⟩ := h
    exact ⟨cs, hv, RepIL.mono s _ _ h1⟩
theorem RepIL.mono (s : ∀ b, I b → I' b ∧ w'.heap[b]? = w.heap[b]?) : (xs : List AV) → (vs : List Value) → RepIL w I xs vs → RepIL w' I' xs vs
  | [], _, h => h
  | x :: r, vs, h => by
    simp only [RepIL] at h ⊢
    obtain ⟨v, vs', hv, h1, h2⟩ := h
    exact ⟨v, vs', hv, RepI.mono s x v h1, RepIL.mono s r vs' h2⟩
theorem RepC.mono (s : ∀ b, I b → I' b ∧ w'.heap[b]? = w.heap[b]?) {b : Nat} (hi : I b) : (xs : List AV) → (off : Nat) → RepC w I xs b off → RepC w' I' xs b off
  | [], _, _ => trivial
  | x :: r, off, h => by
    simp only [RepC] at h ⊢
    obtain ⟨⟨u, hu, ho, hx⟩, h2⟩ := h
    exact ⟨⟨u, by simp only [World.cell?, (s b hi).2]; exact hu, ho, RepI.mono s x u hx⟩, RepC.mono s hi r _ h2⟩
theorem RepRows.mono (s : ∀ b, I b → I' b ∧ w'.heap[b]? = w.heap[b]?) {b : Nat} (hi : I b) : (xs : List (List AV)) → (off size : Nat) → RepRows w I xs b off size → RepRows w' I' xs b off size
  | [], _, _, _ => trivial
  | x :: r, off, size, h => by
    simp only [RepRows] at h ⊢
    obtain ⟨h1, h2, h3⟩ := h
    exact ⟨h1, RepC.mono s hi x off h2, RepRows.mono s hi r _ size h3⟩
end
end

mutual
theorem RepI.rep {E : Env} : (x : AV) → (v : Value) → RepI E.w E.imm x v → Rep E x v
  | .any, _, _ => trivial
  | .bool _, _, h => h
  | .int _ _, _, h => h
  | .str _, _, h => h
  | .nilp, _, h => h
  | .ptr _ _ _ _, _, h => h.elim
  | .cptr _, _, h => h
  | .nils, _, h => h
  | .sl _ _ _ _, _, h => h.elim
  | .list _ _, _, h => h
  | .nilf, _, h => h
  | .fn f first caps, v, h => by
    simp only [RepI] at h
    simp only [Rep]
    obtain ⟨fs, cs, hv, h1, h2⟩ := h
    exact ⟨fs, cs, hv, RepIL.rep _ _ h1, RepIL.rep _ _ h2⟩
  | .nilm, _, h => h
  | .amap _ _, _, h => h.elim
  | .psl _ _ _ _ _, _, h => h.elim
  | .slc _ _ _ _ _, _, h => h.elim
  | .agg cells, v, h => by
    simp only [RepI] at h
    simp only [Rep]
    obtain ⟨cs, hv, h1⟩ := h
    exact ⟨cs, hv, RepIL.rep _ _ h1⟩
  | .tup cells, v, h => by
    simp only [RepI] at h
    simp only [Rep]
    obtain ⟨cs, hv, h1⟩ := h
    exact ⟨cs, hv, RepIL.rep _ _ h1⟩
theorem RepIL.rep {E : Env} : (xs : List AV) → (vs : List Value) → RepIL E.w E.imm xs vs → RepL E xs vs
  | [], _, h => by simpa only [RepIL, RepL] using h
  | x :: r, vs, h => by
    simp only [RepIL] at h
    simp only [RepL]
    obtain ⟨v, vs', hv, h1, h2⟩ := h
    exact ⟨v, vs', hv, RepI.rep x v h1, RepIL.rep r vs' h2⟩
end

/-- What a cell of a block holds: of a block marked 'inl' inline data alone. -/
def CellR (E : Env) (inl : Bool) (x : AV) (u : Value) : Prop := match inl with
  | true => RepI E.w E.imm x u
  | false => Rep E x u
theorem CellR.rep {E : Env} {inl : Bool} {x : AV} {u : Value} (h : CellR E inl x u) : Rep E x u := by
  cases inl
  · exact h
  · exact RepI.rep _ _ h

/-- What lies outside of memory's cells stays, and what may be written. -/
structure Kept (w w' : World) : Prop where
  os : w'.os = w.os
  output : w'.output = w.output
  tape : w'.tape = w.tape
  fr : ∀ a, w'.frozen? a = w.frozen? a
theorem Kept.refl (w : World) : Kept w w := ⟨rfl, rfl, rfl, fun _ => rfl⟩
theorem Kept.trans {w w' w'' : World} (h : Kept w w') (g : Kept w' w'') : Kept w w'' := ⟨g.os.trans h.os, g.output.trans h.output, g.tape.trans h.tape, fun a => (g.fr a).trans (h.fr a)⟩
/-- An object that holds nothing frozen. -/
def freeObj : Option Obj → Prop
  | none => True
  | some (.cells _ _ fr) => fr = (0, 0)
  | some (.map _ _) => True
  | _ => False
theorem frozen_free {w : World} {a : Addr} (h : freeObj w.heap[a.block]?) : w.frozen? a = false := by
  unfold World.frozen?
  split
  · rename_i c t lo hi e
    rw [e] at h
    simp only [freeObj, Prod.mk.injEq] at h
    obtain ⟨rfl, rfl⟩ := h
    simp
  · rfl
theorem Kept.of_heap {w w' : World} (h1 : w'.os = w.os) (h2 : w'.output = w.output) (h3 : w'.tape = w.tape) (h : ∀ b : Nat, w'.heap[b]? = w.heap[b]? ∨ (freeObj w.heap[b]? ∧ freeObj w'.heap[b]?)) : Kept w w' :=
  ⟨h1, h2, h3, fun a => by
    rcases h a.block with e | ⟨e1, e2⟩
    · unfold World.frozen?; rw [e]
    · rw [frozen_free e1, frozen_free e2]⟩
theorem Kept.new {w w' : World} (hsz : w'.heap.size = w.heap.size + 1 ∧ w'.os = w.os ∧ w'.output = w.output ∧ w'.tape = w.tape) (hold : ∀ b, b < w.heap.size → w'.heap[b]? = w.heap[b]?) (hnew : freeObj w'.heap[w.heap.size]?) : Kept w w' :=
  Kept.of_heap hsz.2.1 hsz.2.2.1 hsz.2.2.2 fun b => by
    by_cases h : b < w.heap.size
    · exact .inl (hold b h)
    · right
      have e1 : w.heap[b]? = none := Array.getElem?_eq_none (by omega)
      rw [e1]
      by_cases h2 : b = w.heap.size
      · subst h2; exact ⟨trivial, hnew⟩
      · have e2 : w'.heap[b]? = none := Array.getElem?_eq_none (by omega)
        rw [e2]
        exact ⟨trivial, trivial⟩
theorem Kept.write {w w' : World} {k : Nat} (hsz : w'.heap.size = w.heap.size ∧ w'.os = w.os ∧ w'.output = w.output ∧ w'.tape = w.tape) (hold : ∀ b, b ≠ k → w'.heap[b]? = w.heap[b]?) (h1 : freeObj w.heap[k]?) (h2 : freeObj w'.heap[k]?) : Kept w w' :=
  Kept.of_heap hsz.2.1 hsz.2.2.1 hsz.2.2.2 fun b => by
    by_cases h : b = k
    · subst h; exact .inr ⟨h1, h2⟩
    · exact .inl (hold b h)

/-- What may change: new blocks, and the blocks that may be written. -/
structure Step (E E' : Env) : Prop where
  size : E.w.heap.size ≤ E'.w.heap.size
  old : ∀ b, b < E.w.heap.size → (∀ id blk, E.H id = some blk → 2 ≤ blk.kind → 0 < E.cs id → E.φ id ≠ b) → E'.w.heap[b]? = E.w.heap[b]?
  fo : E'.F = E.F
  ref : ∀ (id : Nat) (blk : ABlk), E.H id = some blk → ∃ blk', E'.H id = some blk' ∧ blk.gen ≤ blk'.gen ∧
    (blk'.gen = blk.gen → blk.kind ≠ 0 → (blk'.kind = blk.kind ∨ blk.kind = 2 ∧ blk'.kind = 1) ∧ blk'.size = blk.size ∧ blk'.elem = blk.elem ∧ E'.φ id = E.φ id ∧ E'.cs id = E.cs id)
  live : ∀ (id : Nat) (blk' : ABlk), E'.H id = some blk' → 2 ≤ blk'.kind → 0 < E'.cs id →
    (∃ blk, E.H id = some blk ∧ 2 ≤ blk.kind ∧ 0 < E.cs id ∧ E'.φ id = E.φ id) ∨ E.w.heap.size ≤ E'.φ id
  kept : Kept E.w E'.w

theorem Step.refl (E : Env) : Step E E where
  size := Nat.le_refl _
  old := fun _ _ _ => rfl
  fo := rfl
  ref := fun _ blk h => ⟨blk, h, Nat.le_refl _, fun _ _ => ⟨.inl rfl, rfl, rfl, rfl, rfl⟩⟩
  live := fun _ blk h hk hc => .inl ⟨blk, h, hk, hc, rfl⟩
  kept := Kept.refl _

theorem Step.imm {E E' : Env} (s : Step E E') {b : Nat} (h : E.imm b) : E'.imm b := by
  obtain ⟨h1, h2, h3⟩ := h
  refine ⟨Nat.lt_of_lt_of_le h1 s.size, by rw [s.fo]; exact h2, fun id blk' hb hk hc => ?_⟩
  rcases s.live id blk' hb hk hc with ⟨blk, hb0, hk0, hc0, he⟩ | hge
  · rw [he]; exact h3 id blk hb0 hk0 hc0
  · omega

theorem Step.heap {E E' : Env} (s : Step E E') {b : Nat} (h : E.imm b) : E'.w.heap[b]? = E.w.heap[b]? :=
  s.old b h.1 h.2.2

theorem Step.inl {E E' : Env} (s : Step E E') : ∀ b, E.imm b → E'.imm b ∧ E'.w.heap[b]? = E.w.heap[b]? :=
  fun _ h => ⟨s.imm h, s.heap h⟩

theorem Step.trans {E E' E'' : Env} (s : Step E E') (t : Step E' E'') : Step E E'' where
  size := Nat.le_trans s.size t.size
  old := fun b hb hn => by
    have h1 := s.old b hb hn
    rw [← h1]
    refine t.old b (Nat.lt_of_lt_of_le hb s.size) (fun id blk' hb' hk hc => ?_)
    rcases s.live id blk' hb' hk hc with ⟨blk, hb0, hk0, hc0, he⟩ | hge
    · rw [he]; exact hn id blk hb0 hk0 hc0
    · omega
  fo := t.fo.trans s.fo
  ref := fun id blk h => by
    obtain ⟨b1, h1, g1, k1⟩ := s.ref id blk h
    obtain ⟨b2, h2, g2, k2⟩ := t.ref id b1 h1
    refine ⟨b2, h2, Nat.le_trans g1 g2, fun hg hk => ?_⟩
    have e1 : b1.gen = blk.gen := by omega
    obtain ⟨c1, c2, c2', c3, c4⟩ := k1 e1 hk
    have hk1 : b1.kind ≠ 0 := by rcases c1 with c1 | c1 <;> omega
    obtain ⟨d1, d2, d2', d3, d4⟩ := k2 (by omega) hk1
    exact ⟨by rcases c1 with c1 | c1 <;> rcases d1 with d1 | d1 <;> omega, by omega, d2'.trans c2', d3.trans c3, d4.trans c4⟩
  live := fun id blk'' h hk hc => by
    rcases t.live id blk'' h hk hc with ⟨b1, h1, k1, c1, e1⟩ | hge
    · rcases s.live id b1 h1 k1 c1 with ⟨b0, h0, k0, c0, e0⟩ | hge'
      · exact .inl ⟨b0, h0, k0, c0, e1.trans e0⟩
      · exact .inr (by rw [e1]; exact hge')
    · exact .inr (Nat.le_trans s.size hge)
  kept := s.kept.trans t.kept

mutual
theorem Rep.mono {E E' : Env} (s : Step E E') : (x : AV) → (v : Value) → Rep E x v → Rep E' x v
  | .any, _, _ => trivial
  | .bool _, _, h => h
  | .int _ _, _, h => h
  | .str _, _, h => h
  | .nilp, _, h => h
  | .ptr id g r o, v, h => by
    simp only [Rep] at h ⊢
    obtain ⟨blk, a, hb, hgl, hv, hg⟩ := h
    obtain ⟨blk', hb', hle, hk⟩ := s.ref id blk hb
    refine ⟨blk', a, hb', by omega, hv, fun e => ?_⟩
    by_cases e0 : blk.gen = g
    · obtain ⟨h1, h2⟩ := hg e0
      obtain ⟨k1, k2, _, k3, _⟩ := hk (by omega) (by omega)
      exact ⟨by omega, by rw [k3, k2]; exact h2⟩
    · omega
  | .cptr cells, v, h => RepI.mono s.inl (.cptr cells) v h
  | .nils, _, h => h
  | .sl id g off len, v, h => by
    simp only [Rep] at h ⊢
    obtain ⟨blk, a, len', cap, hb, hgl, hv, hg⟩ := h
    obtain ⟨blk', hb', hle, hk⟩ := s.ref id blk hb
    refine ⟨blk', a, len', cap, hb', by omega, hv, fun e => ?_⟩
    by_cases e0 : blk.gen = g
    · obtain ⟨h1, h2, h3, h4, h5⟩ := hg e0
      obtain ⟨k1, k2, _, k3, k4⟩ := hk (by omega) (by omega)
      exact ⟨by omega, h2, h3, h4, by rw [k3, k2, k4]; exact h5⟩
    · omega
  | .list size rows, v, h => RepI.mono s.inl (.list size rows) v h
  | .nilf, _, h => h
  | .fn f first caps, v, h => by
    simp only [Rep] at h ⊢
    obtain ⟨fs, cs, hv, h1, h2⟩ := h
    exact ⟨fs, cs, hv, RepL.mono s _ _ h1, RepL.mono s _ _ h2⟩
  | .nilm, _, h => h
  | .amap id g, v, h => by
    simp only [Rep] at h ⊢
    obtain ⟨blk, r, hb, hgl, hv, hg⟩ := h
    obtain ⟨blk', hb', hle, hk⟩ := s.ref id blk hb
    refine ⟨blk', r, hb', by omega, hv, fun e => ?_⟩
    by_cases e0 : blk.gen = g
    · obtain ⟨h1, h2⟩ := hg e0
      obtain ⟨k1, k2, _, k3, k4⟩ := hk (by omega) (by omega)
      exact ⟨by omega, by rw [k3]; exact h2⟩
    · omega
  | .slc id g off len cap, v, h => by
    simp only [Rep] at h ⊢
    obtain ⟨blk, a, len', cap', hb, hgl, hv, hg⟩ := h
    obtain ⟨blk', hb', hle, hk⟩ := s.ref id blk hb
    refine ⟨blk', a, len', cap', hb', by omega, hv, fun e => ?_⟩
    by_cases e0 : blk.gen = g
    · obtain ⟨h1, h2, h2', h3, h4, h5⟩ := hg e0
      obtain ⟨k1, k2, _, k3, k4⟩ := hk (by omega) (by omega)
      exact ⟨by omega, h2, h2', h3, h4, by rw [k3, k2, k4]; exact h5⟩
    · omega
  | .psl id g r o len, v, h => by
    simp only [Rep] at h ⊢
    obtain ⟨blk, a, cap, hb, hgl, hv, hg⟩ := h
    obtain ⟨blk', hb', hle, hk⟩ := s.ref id blk hb
    refine ⟨blk', a, cap, hb', by omega, hv, fun e => ?_⟩
    by_cases e0 : blk.gen = g
    · obtain ⟨h1, h2⟩ := hg e0
      obtain ⟨k1, k2, _, k3, _⟩ := hk (by omega) (by omega)
      exact ⟨by omega, by rw [k3, k2]; exact h2⟩
    · omega
  | .agg cells, v, h => by
    simp only [Rep] at h ⊢
    obtain ⟨cs, hv, h1⟩ := h
    exact ⟨cs, hv, RepL.mono s _ _ h1⟩
  | .tup cells, v, h => by
    simp only [Rep] at h ⊢
    obtain ⟨cs, hv, h1⟩ := h
    exact ⟨cs, hv, RepL.mono s _ _ h1⟩
theorem RepL.mono {E E' : Env} (s : Step E E') : (xs : List AV) → (vs : List Value) → RepL E xs vs → RepL E' xs vs
  | [], _, h => h
  | x :: r, vs, h => by
    simp only [RepL] at h ⊢
    obtain ⟨v, vs', hv, h1, h2⟩ := h
    exact ⟨v, vs', hv, Rep.mono s x v h1, RepL.mono s r vs' h2⟩
end

theorem CellR.mono {E E' : Env} (s : Step E E') {inl : Bool} {x : AV} {u : Value} (h : CellR E inl x u) : CellR E' inl x u := by
  cases inl
  · exact Rep.mono s _ _ h
  · exact RepI.mono s.inl _ _ h

/-! ### Lists of values -/
theorem RepL.length {E : Env} : ∀ {xs : List AV} {vs : List Value}, RepL E xs vs → vs.length = xs.length
  | [], _, h => by simp only [RepL] at h; simp [h]
  | _ :: r, _, h => by
    simp only [RepL] at h
    obtain ⟨v, vs', rfl, _, h2⟩ := h
    simp [RepL.length h2]
theorem RepL.get {E : Env} : ∀ {xs : List AV} {vs : List Value}, RepL E xs vs → ∀ {i : Nat} {x : AV}, xs[i]? = some x → ∃ v, vs[i]? = some v ∧ Rep E x v
  | [], _, _, i, x, hx => by simp at hx
  | y :: r, _, h, i, x, hx => by
    simp only [RepL] at h
    obtain ⟨v, vs', rfl, h1, h2⟩ := h
    cases i with
    | zero => simp only [List.getElem?_cons_zero, Option.some.injEq] at hx; subst hx; exact ⟨v, by simp, h1⟩
    | succ i => simp only [List.getElem?_cons_succ] at hx ⊢; exact RepL.get h2 hx
theorem RepL.of_get {E : Env} : ∀ {xs : List AV} {vs : List Value}, vs.length = xs.length → (∀ (i : Nat) (x : AV), xs[i]? = some x → ∃ v, vs[i]? = some v ∧ Rep E x v) → RepL E xs vs
  | [], vs, hl, _ => by simp only [RepL]; exact List.eq_nil_of_length_eq_zero (by simpa using hl)
  | x :: r, [], hl, _ => by simp at hl
  | x :: r, v :: vs, hl, h => by
    simp only [RepL]
    obtain ⟨v', hv, hx⟩ := h 0 x (by simp)
    simp only [List.getElem?_cons_zero, Option.some.injEq] at hv
    subst hv
    exact ⟨v, vs, rfl, hx, RepL.of_get (by simpa using hl) fun i y hy => by simpa using h (i + 1) y (by simpa using hy)⟩
theorem RepC.get {w : World} {I : Nat → Prop} : ∀ {xs : List AV} {b off : Nat}, RepC w I xs b off → ∀ {i : Nat} {x : AV}, xs[i]? = some x → ∃ v, w.cell? ⟨b, off + i, none⟩ = some v ∧ v.oneCell' = true ∧ RepI w I x v
  | [], _, _, _, i, x, hx => by simp at hx
  | y :: r, b, off, h, i, x, hx => by
    simp only [RepC] at h
    obtain ⟨⟨u, hu, ho, h1⟩, h2⟩ := h
    cases i with
    | zero => simp only [List.getElem?_cons_zero, Option.some.injEq] at hx; subst hx; exact ⟨u, by simpa using hu, ho, h1⟩
    | succ i =>
      simp only [List.getElem?_cons_succ] at hx
      obtain ⟨v, hv, hr⟩ := RepC.get h2 hx
      exact ⟨v, by rw [show off + (i + 1) = off + 1 + i from by omega]; exact hv, hr⟩
theorem RepC.of_get {w : World} {I : Nat → Prop} : ∀ {xs : List AV} {b off : Nat}, (∀ (i : Nat) (x : AV), xs[i]? = some x → ∃ v, w.cell? ⟨b, off + i, none⟩ = some v ∧ v.oneCell' = true ∧ RepI w I x v) → RepC w I xs b off
  | [], _, _, _ => by simp only [RepC]
  | x :: r, b, off, h => by
    simp only [RepC]
    refine ⟨by simpa using h 0 x (by simp), RepC.of_get fun i y hy => ?_⟩
    rw [show off + 1 + i = off + (i + 1) from by omega]
    exact h (i + 1) y (by simpa using hy)
theorem RepC.drop {w : World} {I : Nat → Prop} {xs : List AV} {b off : Nat} (h : RepC w I xs b off) (k : Nat) : RepC w I (xs.drop k) b (off + k) :=
  RepC.of_get fun i x hx => by
    rw [List.getElem?_drop] at hx
    rw [Nat.add_assoc]
    exact h.get hx
theorem RepC.take {w : World} {I : Nat → Prop} {xs : List AV} {b off : Nat} (h : RepC w I xs b off) (k : Nat) : RepC w I (xs.take k) b off :=
  RepC.of_get fun i x hx => h.get (i := i) (by rw [List.getElem?_take] at hx; split at hx; exact hx; cases hx)
theorem RepRows.get {w : World} {I : Nat → Prop} : ∀ {rows : List (List AV)} {b off size : Nat}, RepRows w I rows b off size → ∀ {i : Nat} {row : List AV}, rows[i]? = some row → row.length = size ∧ RepC w I row b (off + i * size)
  | [], _, _, _, _, i, x, hx => by simp at hx
  | y :: r, b, off, size, h, i, x, hx => by
    simp only [RepRows] at h
    obtain ⟨h1, h2, h3⟩ := h
    cases i with
    | zero => simp only [List.getElem?_cons_zero, Option.some.injEq] at hx; subst hx; exact ⟨h1, by simpa using h2⟩
    | succ i =>
      simp only [List.getElem?_cons_succ] at hx
      have := RepRows.get h3 hx
      exact ⟨this.1, by rw [show off + (i + 1) * size = off + size + i * size from by rw [Nat.add_mul]; omega]; exact this.2⟩
theorem RepRows.of_get {w : World} {I : Nat → Prop} : ∀ {rows : List (List AV)} {b off size : Nat}, (∀ (i : Nat) (row : List AV), rows[i]? = some row → row.length = size ∧ RepC w I row b (off + i * size)) → RepRows w I rows b off size
  | [], _, _, _, _ => by simp only [RepRows]
  | x :: r, b, off, size, h => by
    simp only [RepRows]
    have h0 := h 0 x (by simp)
    refine ⟨h0.1, by simpa using h0.2, RepRows.of_get fun i y hy => ?_⟩
    rw [show off + size + i * size = off + (i + 1) * size from by rw [Nat.add_mul]; omega]
    exact h (i + 1) y (by simpa using hy)
end Go.Abs
