/- Abstract values and memory for Go runs: what a value in memory represents, and that it lasts. Conditions: none. -/
import Derived.Calls
import Derived.Orders
import Derived.Laws.World
import Derived.Laws.Sem
import GoSem.ClaimData
import Derived.Laws.Cells
import Derived.Laws.Rows
import Derived.Laws.StructEq
import Derived.Laws.BytesString
import Derived.Laws.Entries
import Derived.Laws.Strings
import Derived.Laws.Append
import Derived.Laws.AppendOwn
import Derived.Laws.MakeOwn
namespace Go.Abs
open Go
section
inductive AV where
 | any
 | bool (b : Bool)
 | int (k : IntKind) (n : Int)
 | str (s : ByteArray)
 | nilp
 | ptr (id gen row off : Nat)
 | cptr (cells : List AV)
 | nils
 | sl (id gen off len : Nat)
 | list (size : Nat) (rows : List (List AV))
 | nilf
 | fn (f : Fn) (first caps : List AV)
 | nilm
 | amap (id gen : Nat)
 | psl (id gen row off len : Nat)
 | slc (id gen off len cap : Nat)
 | agg (cells : List AV)
 | tup (vs : List AV)
 deriving Inhabited
structure ABlk where
 gen : Nat:=0
 kind : Nat:=0
 elem : TypeId:=0
 size : Nat:=0
 inl : Bool:=false
 rows : List (List AV):=[]
 deriving Inhabited
/- Data that never changes,told without any abstract block. -/
mutual
def RepI (w : World) (I : Nat → Prop) : AV → Value → Prop
 | .any,_=>True
 | .bool b,v=>v = .bool b
 | .int k n,v=>v = .int k n
 | .str s,v=>v = .string s
 | .nilp,v=>v = .pointer none
 | .ptr _ _ _ _,_=>False
 | .cptr cells,v => ∃ b off,v = .pointer (some ⟨b,off,none⟩) ∧ I b ∧ RepC w I cells b off
 | .nils,v=>v = .slice none 0 0
 | .sl _ _ _ _,_=>False
 | .list size rows,v=>(v = .slice none 0 0 ∧ rows = []) ∨ ∃ a cap,v = .slice (some a) rows.length cap ∧ rows.length ≤ cap ∧ cap ≤ maxLen ∧ (rows ≠ [] → a.spot = none ∧ I a.block) ∧ RepRows w I rows a.block a.off size
 | .nilf,v=>v = .nilFunc
 | .fn f first caps,v => ∃ fs cs,v = .func f fs cs ∧ RepIL w I first fs.toList ∧ RepIL w I caps cs.toList
 | .nilm,v=>v = .map none
 | .amap _ _,_=>False
 | .psl _ _ _ _ _,_=>False
 | .slc _ _ _ _ _,_=>False
 | .agg cells,v => ∃ cs,v = .agg cs ∧ RepIL w I cells cs.toList
 | .tup vs,v => ∃ cs,v = .tuple cs ∧ RepIL w I vs cs.toList
def RepIL (w : World) (I : Nat → Prop) : List AV → List Value → Prop
 | [],vs=>vs = []
 | x :: r,vs => ∃ v vs',vs = v :: vs' ∧ RepI w I x v ∧ RepIL w I r vs'
def RepC (w : World) (I : Nat → Prop) : List AV → Nat → Nat → Prop
 | [],_,_=>True
 | x :: r,b,off=>(∃ u,w.cell? ⟨b,off,none⟩ = some u ∧ u.oneCell' = true ∧ RepI w I x u) ∧ RepC w I r b (off + 1)
def RepRows (w : World) (I : Nat → Prop) : List (List AV) → Nat → Nat → Nat → Prop
 | [],_,_,_=>True
 | row :: r,b,off,size=>row.length = size ∧ RepC w I row b off ∧ RepRows w I r b (off + size) size
end
structure Env where
 w : World
 H : Nat → Option ABlk
 φ : Nat → Nat
 cs : Nat → Nat
 F : Nat → Prop
def Env.imm (E : Env) (b : Nat) : Prop :=
 b < E.w.heap.size ∧ ¬ E.F b ∧ ∀ id blk,E.H id = some blk → 2 ≤ blk.kind → 0 < E.cs id → E.φ id ≠ b
mutual
def Rep (E : Env) : AV → Value → Prop
 | .any,_=>True
 | .bool b,v=>v = .bool b
 | .int k n,v=>v = .int k n
 | .str s,v=>v = .string s
 | .nilp,v=>v = .pointer none
 | .ptr id g r o,v => ∃ blk a,E.H id = some blk ∧ g ≤ blk.gen ∧ v = .pointer (some a) ∧ (blk.gen = g → (blk.kind = 1 ∨ blk.kind = 2) ∧ a = ⟨E.φ id,r * blk.size + o,none⟩)
 | .cptr cells,v=>RepI E.w E.imm (.cptr cells) v
 | .nils,v=>v = .slice none 0 0
 | .sl id g off len,v => ∃ blk a len' cap,E.H id = some blk ∧ g ≤ blk.gen ∧ v = .slice a len' cap ∧ (blk.gen = g → (blk.kind = 1 ∨ blk.kind = 2) ∧ len' = len ∧ len ≤ cap ∧ cap ≤ maxLen ∧ (0 < cap → a = some ⟨E.φ id,off * blk.size,none⟩ ∧ (off + cap) * blk.size ≤ E.cs id))
 | .list size rows,v=>RepI E.w E.imm (.list size rows) v
 | .nilf,v=>v = .nilFunc
 | .fn f first caps,v => ∃ fs cs,v = .func f fs cs ∧ RepL E first fs.toList ∧ RepL E caps cs.toList
 | .nilm,v=>v = .map none
 | .amap id g,v => ∃ blk r,E.H id = some blk ∧ g ≤ blk.gen ∧ v = .map (some r) ∧ (blk.gen = g → blk.kind = 3 ∧ r = E.φ id)
 | .slc id g off len cap,v => ∃ blk a len' cap',E.H id = some blk ∧ g ≤ blk.gen ∧ v = .slice a len' cap' ∧ (blk.gen = g → (blk.kind = 1 ∨ blk.kind = 2) ∧ len' = len ∧ cap' = cap ∧ len ≤ cap ∧ cap ≤ maxLen ∧ (0 < cap → a = some ⟨E.φ id,off * blk.size,none⟩ ∧ (off + cap) * blk.size ≤ E.cs id)) ∧ len' = len ∧ cap' = cap ∧ len ≤ cap ∧ cap ≤ maxLen
 | .psl id g r o len,v => ∃ blk a cap,E.H id = some blk ∧ g ≤ blk.gen ∧ v = .slice (some a) len cap ∧ (blk.gen = g → (blk.kind = 1 ∨ blk.kind = 2) ∧ a = ⟨E.φ id,r * blk.size + o,none⟩)
 | .agg cells,v => ∃ cs,v = .agg cs ∧ RepL E cells cs.toList
 | .tup vs,v => ∃ cs,v = .tuple cs ∧ RepL E vs cs.toList
def RepL (E : Env) : List AV → List Value → Prop
 | [],vs=>vs = []
 | x :: r,vs => ∃ v vs',vs = v :: vs' ∧ Rep E x v ∧ RepL E r vs'
end
section
variable {w w' : World} {I I' : Nat → Prop}
mutual
theorem RepI.mono (s : ∀ b,I b → I' b ∧ w'.heap[b]? = w.heap[b]?) : (x : AV) → (v : Value) → RepI w I x v → RepI w' I' x v
 | .any,_,_=>trivial
 | .bool _,_,h=>h
 | .int _ _,_,h=>h
 | .str _,_,h=>h
 | .nilp,_,h=>h
 | .ptr _ _ _ _,_,h=>h.elim
 | .cptr cells,v,h=>by
   simp only [RepI] at h ⊢
   obtain ⟨b,off,hv,hi,hc⟩:=h
   exact ⟨b,off,hv,(s b hi).1,RepC.mono s hi cells off hc⟩
 | .nils,_,h=>h
 | .sl _ _ _ _,_,h=>h.elim
 | .list size rows,v,h=>by
   simp only [RepI] at h ⊢
   rcases h with h | ⟨a,cap,hv,h1,h2,h3,h4⟩
   · exact .inl h
   · refine .inr ⟨a,cap,hv,h1,h2,fun hn=>⟨(h3 hn).1,(s _ (h3 hn).2).1⟩, ?_⟩
     cases rows with
     | nil=>simp only [RepRows]
     | cons r rs=>exact RepRows.mono s (h3 (by simp)).2 _ _ _ h4
 | .nilf,_,h=>h
 | .fn f first caps,v,h=>by
   simp only [RepI] at h ⊢
   obtain ⟨fs,cs,hv,h1,h2⟩:=h
   exact ⟨fs,cs,hv,RepIL.mono s _ _ h1,RepIL.mono s _ _ h2⟩
 | .nilm,_,h=>h
 | .amap _ _,_,h=>h.elim
 | .psl _ _ _ _ _,_,h=>h.elim
 | .slc _ _ _ _ _,_,h=>h.elim
 | .agg cells,v,h=>by
   simp only [RepI] at h ⊢
   obtain ⟨cs,hv,h1⟩:=h
   exact ⟨cs,hv,RepIL.mono s _ _ h1⟩
 | .tup cells,v,h=>by
   simp only [RepI] at h ⊢
   obtain ⟨cs,hv,h1⟩:=h
   exact ⟨cs,hv,RepIL.mono s _ _ h1⟩
theorem RepIL.mono (s : ∀ b,I b → I' b ∧ w'.heap[b]? = w.heap[b]?) : (xs : List AV) → (vs : List Value) → RepIL w I xs vs → RepIL w' I' xs vs
 | [],_,h=>h
 | x :: r,vs,h=>by
   simp only [RepIL] at h ⊢
   obtain ⟨v,vs',hv,h1,h2⟩:=h
   exact ⟨v,vs',hv,RepI.mono s x v h1,RepIL.mono s r vs' h2⟩
theorem RepC.mono (s : ∀ b,I b → I' b ∧ w'.heap[b]? = w.heap[b]?) {b : Nat} (hi : I b) : (xs : List AV) → (off : Nat) → RepC w I xs b off → RepC w' I' xs b off
 | [],_,_=>trivial
 | x :: r,off,h=>by
   simp only [RepC] at h ⊢
   obtain ⟨⟨u,hu,ho,hx⟩,h2⟩:=h
   exact ⟨⟨u,by simp only [World.cell?,(s b hi).2]; exact hu,ho,RepI.mono s x u hx⟩,RepC.mono s hi r _ h2⟩
theorem RepRows.mono (s : ∀ b,I b → I' b ∧ w'.heap[b]? = w.heap[b]?) {b : Nat} (hi : I b) : (xs : List (List AV)) → (off size : Nat) → RepRows w I xs b off size → RepRows w' I' xs b off size
 | [],_,_,_=>trivial
 | x :: r,off,size,h=>by
   simp only [RepRows] at h ⊢
   obtain ⟨h1,h2,h3⟩:=h
   exact ⟨h1,RepC.mono s hi x off h2,RepRows.mono s hi r _ size h3⟩
end
end
mutual
theorem RepI.rep {E : Env} : (x : AV) → (v : Value) → RepI E.w E.imm x v → Rep E x v
 | .any,_,_=>trivial
 | .bool _,_,h=>h
 | .int _ _,_,h=>h
 | .str _,_,h=>h
 | .nilp,_,h=>h
 | .ptr _ _ _ _,_,h=>h.elim
 | .cptr _,_,h=>h
 | .nils,_,h=>h
 | .sl _ _ _ _,_,h=>h.elim
 | .list _ _,_,h=>h
 | .nilf,_,h=>h
 | .fn f first caps,v,h=>by
   simp only [RepI] at h
   simp only [Rep]
   obtain ⟨fs,cs,hv,h1,h2⟩:=h
   exact ⟨fs,cs,hv,RepIL.rep _ _ h1,RepIL.rep _ _ h2⟩
 | .nilm,_,h=>h
 | .amap _ _,_,h=>h.elim
 | .psl _ _ _ _ _,_,h=>h.elim
 | .slc _ _ _ _ _,_,h=>h.elim
 | .agg cells,v,h=>by
   simp only [RepI] at h
   simp only [Rep]
   obtain ⟨cs,hv,h1⟩:=h
   exact ⟨cs,hv,RepIL.rep _ _ h1⟩
 | .tup cells,v,h=>by
   simp only [RepI] at h
   simp only [Rep]
   obtain ⟨cs,hv,h1⟩:=h
   exact ⟨cs,hv,RepIL.rep _ _ h1⟩
theorem RepIL.rep {E : Env} : (xs : List AV) → (vs : List Value) → RepIL E.w E.imm xs vs → RepL E xs vs
 | [],_,h=>by simpa only [RepIL,RepL] using h
 | x :: r,vs,h=>by
   simp only [RepIL] at h
   simp only [RepL]
   obtain ⟨v,vs',hv,h1,h2⟩:=h
   exact ⟨v,vs',hv,RepI.rep x v h1,RepIL.rep r vs' h2⟩
end
def CellR (E : Env) (inl : Bool) (x : AV) (u : Value) : Prop := match inl with
 | true=>RepI E.w E.imm x u
 | false=>Rep E x u
theorem CellR.rep {E : Env} {inl : Bool} {x : AV} {u : Value} (h : CellR E inl x u) : Rep E x u := by
 cases inl
 · exact h
 · exact RepI.rep _ _ h
structure Kept (w w' : World) : Prop where
 os : w'.os = w.os
 output : w'.output = w.output
 tape : w'.tape = w.tape
 fr : ∀ a : Addr,a.block < w.heap.size → w'.frozen? a = w.frozen? a
theorem Kept.refl (w : World) : Kept w w := ⟨rfl,rfl,rfl,fun _ _ => rfl⟩
theorem Kept.trans {w w' w'' : World} (hs : w.heap.size ≤ w'.heap.size) (h : Kept w w') (g : Kept w' w'') : Kept w w'' := ⟨g.os.trans h.os,g.output.trans h.output,g.tape.trans h.tape,fun a ha => (g.fr a (Nat.lt_of_lt_of_le ha hs)).trans (h.fr a ha)⟩
def freeObj : Option Obj → Prop
 | none=>True
 | some (.cells _ _ fr)=>fr = (0,0)
 | some (.map _ _)=>True
 | _=>False
theorem frozen_free {w : World} {a : Addr} (h : freeObj w.heap[a.block]?) : w.frozen? a = false := by
 unfold World.frozen?
 split
 · rename_i c t lo hi e
   rw [e] at h
   simp only [freeObj,Prod.mk.injEq] at h
   obtain ⟨rfl,rfl⟩:=h
   simp
 · rfl
theorem Kept.of_heap {w w' : World} (h1 : w'.os = w.os) (h2 : w'.output = w.output) (h3 : w'.tape = w.tape) (h : ∀ b : Nat,w'.heap[b]? = w.heap[b]? ∨ (freeObj w.heap[b]? ∧ freeObj w'.heap[b]?)) : Kept w w' :=
 ⟨h1,h2,h3,fun a _=>by
   rcases h a.block with e | ⟨e1,e2⟩
   · unfold World.frozen?; rw [e]
   · rw [frozen_free e1,frozen_free e2]⟩
theorem Kept.new {w w' : World} (hsz : w'.heap.size = w.heap.size + 1 ∧ w'.os = w.os ∧ w'.output = w.output ∧ w'.tape = w.tape) (hold : ∀ b,b < w.heap.size → w'.heap[b]? = w.heap[b]?) (hnew : freeObj w'.heap[w.heap.size]?) : Kept w w' :=
 Kept.of_heap hsz.2.1 hsz.2.2.1 hsz.2.2.2 fun b=>by
   by_cases h : b < w.heap.size
   · exact .inl (hold b h)
   · right
     have e1 : w.heap[b]? = none:=Array.getElem?_eq_none (by omega)
     rw [e1]
     by_cases h2 : b = w.heap.size
     · subst h2; exact ⟨trivial,hnew⟩
     · have e2 : w'.heap[b]? = none:=Array.getElem?_eq_none (by omega)
       rw [e2]
       exact ⟨trivial,trivial⟩
theorem Kept.write {w w' : World} {k : Nat} (hsz : w'.heap.size = w.heap.size ∧ w'.os = w.os ∧ w'.output = w.output ∧ w'.tape = w.tape) (hold : ∀ b,b ≠ k → w'.heap[b]? = w.heap[b]?) (h1 : freeObj w.heap[k]?) (h2 : freeObj w'.heap[k]?) : Kept w w' :=
 Kept.of_heap hsz.2.1 hsz.2.2.1 hsz.2.2.2 fun b=>by
   by_cases h : b = k
   · subst h; exact .inr ⟨h1,h2⟩
   · exact .inl (hold b h)
structure Step (E E' : Env) : Prop where
 size : E.w.heap.size ≤ E'.w.heap.size
 old : ∀ b,b < E.w.heap.size → (∀ id blk,E.H id = some blk → 2 ≤ blk.kind → 0 < E.cs id → E.φ id ≠ b) → E'.w.heap[b]? = E.w.heap[b]?
 fo : E'.F = E.F
 ref : ∀ (id : Nat) (blk : ABlk),E.H id = some blk → ∃ blk',E'.H id = some blk' ∧ blk.gen ≤ blk'.gen ∧
   (blk'.gen = blk.gen → blk.kind ≠ 0 → (blk'.kind = blk.kind ∨ blk.kind = 2 ∧ blk'.kind = 1) ∧ blk'.size = blk.size ∧ blk'.elem = blk.elem ∧ E'.φ id = E.φ id ∧ E'.cs id = E.cs id)
 live : ∀ (id : Nat) (blk' : ABlk),E'.H id = some blk' → 2 ≤ blk'.kind → 0 < E'.cs id →
   (∃ id0 blk,E.H id0 = some blk ∧ 2 ≤ blk.kind ∧ 0 < E.cs id0 ∧ E'.φ id = E.φ id0 ∧ (id0 = id ∨ ∃ b1,E'.H id0 = some b1 ∧ blk.gen < b1.gen)) ∨ E.w.heap.size ≤ E'.φ id
 kept : Kept E.w E'.w
theorem Step.refl (E : Env) : Step E E where
 size:=Nat.le_refl _
 old:=fun _ _ _=>rfl
 fo:=rfl
 ref:=fun _ blk h=>⟨blk,h,Nat.le_refl _,fun _ _=>⟨.inl rfl,rfl,rfl,rfl,rfl⟩⟩
 live:=fun _ blk h hk hc => .inl ⟨_,blk,h,hk,hc,rfl, .inl rfl⟩
 kept:=Kept.refl _
theorem Step.imm {E E' : Env} (s : Step E E') {b : Nat} (h : E.imm b) : E'.imm b := by
 obtain ⟨h1,h2,h3⟩:=h
 refine ⟨Nat.lt_of_lt_of_le h1 s.size,by rw [s.fo]; exact h2,fun id blk' hb hk hc=>?_⟩
 rcases s.live id blk' hb hk hc with ⟨id0,blk,hb0,hk0,hc0,he,_⟩ | hge
 · rw [he]; exact h3 id0 blk hb0 hk0 hc0
 · omega
theorem Step.heap {E E' : Env} (s : Step E E') {b : Nat} (h : E.imm b) : E'.w.heap[b]? = E.w.heap[b]? :=
 s.old b h.1 h.2.2
theorem Step.inl {E E' : Env} (s : Step E E') : ∀ b,E.imm b → E'.imm b ∧ E'.w.heap[b]? = E.w.heap[b]? :=
 fun _ h=>⟨s.imm h,s.heap h⟩
theorem Step.trans {E E' E'' : Env} (s : Step E E') (t : Step E' E'') : Step E E'' where
 size:=Nat.le_trans s.size t.size
 old:=fun b hb hn=>by
   have h1:=s.old b hb hn
   rw [← h1]
   refine t.old b (Nat.lt_of_lt_of_le hb s.size) (fun id blk' hb' hk hc=>?_)
   rcases s.live id blk' hb' hk hc with ⟨id0,blk,hb0,hk0,hc0,he,_⟩ | hge
   · rw [he]; exact hn id0 blk hb0 hk0 hc0
   · omega
 fo:=t.fo.trans s.fo
 ref:=fun id blk h=>by
   obtain ⟨b1,h1,g1,k1⟩:=s.ref id blk h
   obtain ⟨b2,h2,g2,k2⟩:=t.ref id b1 h1
   refine ⟨b2,h2,Nat.le_trans g1 g2,fun hg hk=>?_⟩
   have e1 : b1.gen = blk.gen:=by omega
   obtain ⟨c1,c2,c2',c3,c4⟩:=k1 e1 hk
   have hk1 : b1.kind ≠ 0:=by rcases c1 with c1 | c1 <;> omega
   obtain ⟨d1,d2,d2',d3,d4⟩:=k2 (by omega) hk1
   exact ⟨by rcases c1 with c1 | c1 <;> rcases d1 with d1 | d1 <;> omega,by omega,d2'.trans c2',d3.trans c3,d4.trans c4⟩
 live := fun id blk'' h hk hc => by
   rcases t.live id blk'' h hk hc with ⟨i1,b1,h1,k1,c1,e1,f1⟩ | hge
   · rcases s.live i1 b1 h1 k1 c1 with ⟨i0,b0,h0,k0,c0,e0,f0⟩ | hge'
     · refine .inl ⟨i0,b0,h0,k0,c0,e1.trans e0, ?_⟩
       rcases f0 with rfl | ⟨b2,g1,g2⟩
       · rcases f1 with rfl | ⟨b3,g3,g4⟩
         · exact .inl rfl
         · obtain ⟨b4,q1,q2,_⟩:=s.ref _ b0 h0
           rw [h1] at q1
           cases q1
           exact .inr ⟨b3,g3,by omega⟩
       · obtain ⟨b4,q1,q2,_⟩:=t.ref i0 b2 g1
         exact .inr ⟨b4,q1,by omega⟩
     · exact .inr (by rw [e1]; exact hge')
   · exact .inr (Nat.le_trans s.size hge)
 kept:=s.kept.trans s.size t.kept
mutual
theorem Rep.mono {E E' : Env} (s : Step E E') : (x : AV) → (v : Value) → Rep E x v → Rep E' x v
 | .any,_,_=>trivial
 | .bool _,_,h=>h
 | .int _ _,_,h=>h
 | .str _,_,h=>h
 | .nilp,_,h=>h
 | .ptr id g r o,v,h=>by
   simp only [Rep] at h ⊢
   obtain ⟨blk,a,hb,hgl,hv,hg⟩:=h
   obtain ⟨blk',hb',hle,hk⟩:=s.ref id blk hb
   refine ⟨blk',a,hb',by omega,hv,fun e=>?_⟩
   by_cases e0 : blk.gen = g
   · obtain ⟨h1,h2⟩:=hg e0
     obtain ⟨k1,k2,_,k3,_⟩:=hk (by omega) (by omega)
     exact ⟨by omega,by rw [k3,k2]; exact h2⟩
   · omega
 | .cptr cells,v,h=>RepI.mono s.inl (.cptr cells) v h
 | .nils,_,h=>h
 | .sl id g off len,v,h=>by
   simp only [Rep] at h ⊢
   obtain ⟨blk,a,len',cap,hb,hgl,hv,hg⟩:=h
   obtain ⟨blk',hb',hle,hk⟩:=s.ref id blk hb
   refine ⟨blk',a,len',cap,hb',by omega,hv,fun e=>?_⟩
   by_cases e0 : blk.gen = g
   · obtain ⟨h1,h2,h3,h4,h5⟩:=hg e0
     obtain ⟨k1,k2,_,k3,k4⟩:=hk (by omega) (by omega)
     exact ⟨by omega,h2,h3,h4,by rw [k3,k2,k4]; exact h5⟩
   · omega
 | .list size rows,v,h=>RepI.mono s.inl (.list size rows) v h
 | .nilf,_,h=>h
 | .fn f first caps,v,h=>by
   simp only [Rep] at h ⊢
   obtain ⟨fs,cs,hv,h1,h2⟩:=h
   exact ⟨fs,cs,hv,RepL.mono s _ _ h1,RepL.mono s _ _ h2⟩
 | .nilm,_,h=>h
 | .amap id g,v,h=>by
   simp only [Rep] at h ⊢
   obtain ⟨blk,r,hb,hgl,hv,hg⟩:=h
   obtain ⟨blk',hb',hle,hk⟩:=s.ref id blk hb
   refine ⟨blk',r,hb',by omega,hv,fun e=>?_⟩
   by_cases e0 : blk.gen = g
   · obtain ⟨h1,h2⟩:=hg e0
     obtain ⟨k1,k2,_,k3,k4⟩:=hk (by omega) (by omega)
     exact ⟨by omega,by rw [k3]; exact h2⟩
   · omega
 | .slc id g off len cap,v,h=>by
   simp only [Rep] at h ⊢
   obtain ⟨blk,a,len',cap',hb,hgl,hv,hg,hst⟩:=h
   obtain ⟨blk',hb',hle,hk⟩:=s.ref id blk hb
   refine ⟨blk',a,len',cap',hb',by omega,hv,fun e=>?_,hst⟩
   by_cases e0 : blk.gen = g
   · obtain ⟨h1,h2,h2',h3,h4,h5⟩:=hg e0
     obtain ⟨k1,k2,_,k3,k4⟩:=hk (by omega) (by omega)
     exact ⟨by omega,h2,h2',h3,h4,by rw [k3,k2,k4]; exact h5⟩
   · omega
 | .psl id g r o len,v,h=>by
   simp only [Rep] at h ⊢
   obtain ⟨blk,a,cap,hb,hgl,hv,hg⟩:=h
   obtain ⟨blk',hb',hle,hk⟩:=s.ref id blk hb
   refine ⟨blk',a,cap,hb',by omega,hv,fun e=>?_⟩
   by_cases e0 : blk.gen = g
   · obtain ⟨h1,h2⟩:=hg e0
     obtain ⟨k1,k2,_,k3,_⟩:=hk (by omega) (by omega)
     exact ⟨by omega,by rw [k3,k2]; exact h2⟩
   · omega
 | .agg cells,v,h=>by
   simp only [Rep] at h ⊢
   obtain ⟨cs,hv,h1⟩:=h
   exact ⟨cs,hv,RepL.mono s _ _ h1⟩
 | .tup cells,v,h=>by
   simp only [Rep] at h ⊢
   obtain ⟨cs,hv,h1⟩:=h
   exact ⟨cs,hv,RepL.mono s _ _ h1⟩
theorem RepL.mono {E E' : Env} (s : Step E E') : (xs : List AV) → (vs : List Value) → RepL E xs vs → RepL E' xs vs
 | [],_,h=>h
 | x :: r,vs,h=>by
   simp only [RepL] at h ⊢
   obtain ⟨v,vs',hv,h1,h2⟩:=h
   exact ⟨v,vs',hv,Rep.mono s x v h1,RepL.mono s r vs' h2⟩
end
theorem CellR.mono {E E' : Env} (s : Step E E') {inl : Bool} {x : AV} {u : Value} (h : CellR E inl x u) : CellR E' inl x u := by
 cases inl
 · exact Rep.mono s _ _ h
 · exact RepI.mono s.inl _ _ h
theorem RepL.length {E : Env} : ∀ {xs : List AV} {vs : List Value},RepL E xs vs → vs.length = xs.length
 | [],_,h=>by simp only [RepL] at h; simp [h]
 | _ :: r,_,h=>by
   simp only [RepL] at h
   obtain ⟨v,vs',rfl,_,h2⟩:=h
   simp [RepL.length h2]
theorem RepL.get {E : Env} : ∀ {xs : List AV} {vs : List Value},RepL E xs vs → ∀ {i : Nat} {x : AV},xs[i]? = some x → ∃ v,vs[i]? = some v ∧ Rep E x v
 | [],_,_,i,x,hx=>by simp at hx
 | y :: r,_,h,i,x,hx=>by
   simp only [RepL] at h
   obtain ⟨v,vs',rfl,h1,h2⟩:=h
   cases i with
   | zero=>simp only [List.getElem?_cons_zero,Option.some.injEq] at hx; subst hx; exact ⟨v,by simp,h1⟩
   | succ i=>simp only [List.getElem?_cons_succ] at hx ⊢; exact RepL.get h2 hx
theorem RepL.of_get {E : Env} : ∀ {xs : List AV} {vs : List Value},vs.length = xs.length → (∀ (i : Nat) (x : AV),xs[i]? = some x → ∃ v,vs[i]? = some v ∧ Rep E x v) → RepL E xs vs
 | [],vs,hl,_=>by simp only [RepL]; exact List.eq_nil_of_length_eq_zero (by simpa using hl)
 | x :: r,[],hl,_=>by simp at hl
 | x :: r,v :: vs,hl,h=>by
   simp only [RepL]
   obtain ⟨v',hv,hx⟩:=h 0 x (by simp)
   simp only [List.getElem?_cons_zero,Option.some.injEq] at hv
   subst hv
   exact ⟨v,vs,rfl,hx,RepL.of_get (by simpa using hl) fun i y hy=>by simpa using h (i + 1) y (by simpa using hy)⟩
theorem RepC.get {w : World} {I : Nat → Prop} : ∀ {xs : List AV} {b off : Nat},RepC w I xs b off → ∀ {i : Nat} {x : AV},xs[i]? = some x → ∃ v,w.cell? ⟨b,off + i,none⟩ = some v ∧ v.oneCell' = true ∧ RepI w I x v
 | [],_,_,_,i,x,hx=>by simp at hx
 | y :: r,b,off,h,i,x,hx=>by
   simp only [RepC] at h
   obtain ⟨⟨u,hu,ho,h1⟩,h2⟩:=h
   cases i with
   | zero=>simp only [List.getElem?_cons_zero,Option.some.injEq] at hx; subst hx; exact ⟨u,by simpa using hu,ho,h1⟩
   | succ i =>
     simp only [List.getElem?_cons_succ] at hx
     obtain ⟨v,hv,hr⟩:=RepC.get h2 hx
     exact ⟨v,by rw [show off + (i + 1) = off + 1 + i from by omega]; exact hv,hr⟩
theorem RepC.of_get {w : World} {I : Nat → Prop} : ∀ {xs : List AV} {b off : Nat},(∀ (i : Nat) (x : AV),xs[i]? = some x → ∃ v,w.cell? ⟨b,off + i,none⟩ = some v ∧ v.oneCell' = true ∧ RepI w I x v) → RepC w I xs b off
 | [],_,_,_=>by simp only [RepC]
 | x :: r,b,off,h=>by
   simp only [RepC]
   refine ⟨by simpa using h 0 x (by simp),RepC.of_get fun i y hy=>?_⟩
   rw [show off + 1 + i = off + (i + 1) from by omega]
   exact h (i + 1) y (by simpa using hy)
theorem RepC.drop {w : World} {I : Nat → Prop} {xs : List AV} {b off : Nat} (h : RepC w I xs b off) (k : Nat) : RepC w I (xs.drop k) b (off + k) :=
 RepC.of_get fun i x hx=>by
   rw [List.getElem?_drop] at hx
   rw [Nat.add_assoc]
   exact h.get hx
theorem RepC.take {w : World} {I : Nat → Prop} {xs : List AV} {b off : Nat} (h : RepC w I xs b off) (k : Nat) : RepC w I (xs.take k) b off :=
 RepC.of_get fun i x hx=>h.get (i:=i) (by rw [List.getElem?_take] at hx; split at hx; exact hx; cases hx)
theorem RepRows.get {w : World} {I : Nat → Prop} : ∀ {rows : List (List AV)} {b off size : Nat},RepRows w I rows b off size → ∀ {i : Nat} {row : List AV},rows[i]? = some row → row.length = size ∧ RepC w I row b (off + i * size)
 | [],_,_,_,_,i,x,hx=>by simp at hx
 | y :: r,b,off,size,h,i,x,hx=>by
   simp only [RepRows] at h
   obtain ⟨h1,h2,h3⟩:=h
   cases i with
   | zero=>simp only [List.getElem?_cons_zero,Option.some.injEq] at hx; subst hx; exact ⟨h1,by simpa using h2⟩
   | succ i =>
     simp only [List.getElem?_cons_succ] at hx
     have:=RepRows.get h3 hx
     exact ⟨this.1,by rw [show off + (i + 1) * size = off + size + i * size from by rw [Nat.add_mul]; omega]; exact this.2⟩
theorem RepRows.of_get {w : World} {I : Nat → Prop} : ∀ {rows : List (List AV)} {b off size : Nat},(∀ (i : Nat) (row : List AV),rows[i]? = some row → row.length = size ∧ RepC w I row b (off + i * size)) → RepRows w I rows b off size
 | [],_,_,_,_=>by simp only [RepRows]
 | x :: r,b,off,size,h=>by
   simp only [RepRows]
   have h0:=h 0 x (by simp)
   refine ⟨h0.1,by simpa using h0.2,RepRows.of_get fun i y hy=>?_⟩
   rw [show off + size + i * size = off + (i + 1) * size from by rw [Nat.add_mul]; omega]
   exact h (i + 1) y (by simpa using hy)
end
section
abbrev NL (α : Type) := List (Nat × α)
def lk {α : Type} : NL α → Nat → Option α
 | [],_=>none
 | (j,a) :: r,i=>if j = i then some a else lk r i
def st {α : Type} : NL α → Nat → α → NL α
 | [],i,a=>[(i,a)]
 | (j,b) :: r,i,a=>if i < j then (i,a) :: (j,b) :: r else if i = j then (i,a) :: r else (j,b) :: st r i a
theorem lk_st {α : Type} : ∀ (l : NL α) (i : Nat) (a : α) (k : Nat),lk (st l i a) k = if i = k then some a else lk l k
 | [],i,a,k=>by simp [st,lk]
 | (j, b) :: r, i, a, k => by
   simp only [st]
   split
   · simp only [lk]
   · split
     · rename_i h1 h2; subst h2; simp only [lk]; split <;> rfl
     · rename_i h1 h2
       simp only [lk,lk_st r i a k]
       by_cases hk : j = k
       · subst hk; simp [h2]
       · simp [hk]
theorem lk_st_fun {α : Type} (l : NL α) (i : Nat) (a : α) : lk (st l i a) = fun k => if i = k then some a else lk l k := funext (lk_st l i a)
inductive AP (α : Type) where
 | ret (a : α)
 | fail
 | get (id : Nat) (k : ABlk → AP α)
 | put (id : Nat) (b : ABlk) (k : AP α)
 | asm (p : Prop) (k : AP α)
def AP.bind {α β : Type} : AP α → (α → AP β) → AP β
 | .ret a,f=>f a
 | .fail,_ => .fail
 | .get id k,f => .get id fun b=>(k b).bind f
 | .put id b k,f => .put id b (k.bind f)
 | .asm p k,f => .asm p (k.bind f)
structure Out (α : Type) where
 val : α
 H : NL ABlk
 rd : List Nat
 wr : List Nat
 as : Prop
def AP.run {α : Type} : AP α → NL ABlk → Option (Out α)
 | .ret a,H=>some ⟨a,H,[],[],True⟩
 | .fail,_=>none
 | .get id k,H=>match lk H id with
   | none=>match (k {}).run H with
     | some o=>some { o with rd:=id :: o.rd }
     | none=>none
   | some b=>match (k b).run H with
     | some o=>some { o with rd:=id :: o.rd }
     | none=>none
 | .put id b k,H=>match k.run (st H id b) with
   | some o=>some { o with wr:=id :: o.wr }
   | none=>none
 | .asm p k,H=>match k.run H with
   | some o=>some { o with as:=p ∧ o.as }
   | none=>none
def BlkOK (E : Env) (id : Nat) (blk : ABlk) : Prop :=
 match blk.kind with
 | 0=>True
 | 1 | 2 => ∃ C : Array Value,(0 < E.cs id → E.w.heap[E.φ id]? = some (.cells C blk.elem (0,0))) ∧ C.size = E.cs id ∧ 0 < blk.size ∧ blk.rows.length * blk.size ≤ C.size ∧
     (∀ (r : Nat) (row : List AV),blk.rows[r]? = some row → row.length = blk.size) ∧
     ∀ (r : Nat) (row : List AV) (j : Nat) (x : AV),blk.rows[r]? = some row → row[j]? = some x → ∃ u,C[r * blk.size + j]? = some u ∧ u.oneCell' = true ∧ CellR E blk.inl x u
 | 3 => 0 < E.cs id ∧ ∃ es clock, E.w.heap[E.φ id]? = some (.map es clock) ∧ (∀ (i : Nat) (e : MapEntry), es[i]? = some e → e.born = i) ∧ clock = es.size ∧ es.size = blk.rows.length ∧
     ∀ (r : Nat) (row : List AV),blk.rows[r]? = some row → ∃ (k v : AV) (e : MapEntry),row = [k,v] ∧ es[r]? = some e ∧ Rep E k e.key ∧ Rep E v e.val
 | _=>False
structure HR (E : Env) : Prop where
 blk : ∀ id blk,E.H id = some blk → BlkOK E id blk
 inj : ∀ i j bi bj,E.H i = some bi → E.H j = some bj → bi.kind ≠ 0 → bj.kind ≠ 0 → 0 < E.cs i → 0 < E.cs j → i ≠ j → E.φ i ≠ E.φ j
 nf : ∀ id blk,E.H id = some blk → blk.kind ≠ 0 → 0 < E.cs id → E.φ id < E.w.heap.size ∧ ¬ E.F (E.φ id)
 fb : ∀ b,E.F b → b < E.w.heap.size
theorem HR.cells {E : Env} (h : HR E) {id : Nat} {blk : ABlk} (hb : E.H id = some blk) (hk : blk.kind = 1 ∨ blk.kind = 2) :
   ∃ C : Array Value,(0 < E.cs id → E.w.heap[E.φ id]? = some (.cells C blk.elem (0,0))) ∧ C.size = E.cs id ∧ 0 < blk.size ∧ blk.rows.length * blk.size ≤ C.size ∧
     (∀ (r : Nat) (row : List AV),blk.rows[r]? = some row → row.length = blk.size) ∧
     ∀ (r : Nat) (row : List AV) (j : Nat) (x : AV),blk.rows[r]? = some row → row[j]? = some x → ∃ u,C[r * blk.size + j]? = some u ∧ u.oneCell' = true ∧ CellR E blk.inl x u:=by
 have:=h.blk id blk hb
 unfold BlkOK at this
 rcases hk with hk | hk <;> simpa only [hk] using this
theorem BlkOK.mk_cells {E : Env} {id : Nat} {blk : ABlk} (hk : blk.kind = 1 ∨ blk.kind = 2) (h : ∃ C : Array Value,(0 < E.cs id → E.w.heap[E.φ id]? = some (.cells C blk.elem (0,0))) ∧ C.size = E.cs id ∧ 0 < blk.size ∧ blk.rows.length * blk.size ≤ C.size ∧
     (∀ (r : Nat) (row : List AV),blk.rows[r]? = some row → row.length = blk.size) ∧
     ∀ (r : Nat) (row : List AV) (j : Nat) (x : AV),blk.rows[r]? = some row → row[j]? = some x → ∃ u,C[r * blk.size + j]? = some u ∧ u.oneCell' = true ∧ CellR E blk.inl x u) : BlkOK E id blk:=by
 unfold BlkOK
 rcases hk with hk | hk <;> simpa only [hk] using h
theorem BlkOK.mono {E E' : Env} (s : Step E E') {k : Nat} {b : ABlk} (hφ : E'.φ k = E.φ k) (hcs : E'.cs k = E.cs k) (hh : b.kind ≠ 0 → 0 < E.cs k → E'.w.heap[E.φ k]? = E.w.heap[E.φ k]?) (h : BlkOK E k b) : BlkOK E' k b := by
 unfold BlkOK at h ⊢
 by_cases hz : b.kind = 0
 · simp only [hz]
 rw [hφ,hcs]
 split <;> rename_i hkk <;> simp only [hkk] at h
 · trivial
 · obtain ⟨C0,a1,a2,a3,a4,a5,a6⟩:=h
   exact ⟨C0,fun hp=>by rw [hh hz hp]; exact a1 hp,a2,a3,a4,a5,fun r row j x h1 h2=>by
     obtain ⟨u,b1,b2,b3⟩:=a6 r row j x h1 h2
     exact ⟨u,b1,b2,b3.mono s⟩⟩
 · obtain ⟨C0,a1,a2,a3,a4,a5,a6⟩:=h
   exact ⟨C0,fun hp=>by rw [hh hz hp]; exact a1 hp,a2,a3,a4,a5,fun r row j x h1 h2=>by
     obtain ⟨u,b1,b2,b3⟩:=a6 r row j x h1 h2
     exact ⟨u,b1,b2,b3.mono s⟩⟩
 · obtain ⟨hp,es,cl,a1,a2,a2',a3,a4⟩:=h
   exact ⟨hp,es,cl,by rw [hh hz hp]; exact a1,a2,a2',a3,fun r row h1=>by
     obtain ⟨x,v,e,b1,b2,b3,b4⟩:=a4 r row h1
     exact ⟨x,v,e,b1,b2,Rep.mono s _ _ b3,Rep.mono s _ _ b4⟩⟩
def szOf (P : Program) (t : TypeId) : Option Nat := (P.info? t).map (·.size)
def aggT (P : Program) (t : TypeId) : Option Bool := (P.underlying t).map fun | .struct _ | .array _ _ => true | _ => false
theorem run_sizeOf' {P : Program} {t : TypeId} {s : Nat} (h : szOf P t = some s) (w : World) : (sizeOf t).run P w = .ok s w := by
 unfold szOf at h
 cases hi : P.info? t with
 | none=>simp [hi] at h
 | some i=>simp [hi] at h; simp [sizeOf,typeInfo,hi,h]
theorem run_isAgg' {P : Program} {t : TypeId} {b : Bool} (h : aggT P t = some b) (w : World) : (isAgg t).run P w = .ok b w := by
 unfold aggT at h
 cases hi : P.underlying t with
 | none=>simp [hi] at h
 | some d =>
   simp only [hi,Option.map_some,Option.some.injEq] at h
   simp only [isAgg,underlying,Sem.run_bind,run_program,Result.andThen_ok,hi,Sem.run_pure]
   subst h
   cases d <;> simp
theorem run_underlying' {P : Program} {t : TypeId} {d : TypeDesc} (h : P.underlying t = some d) (w : World) : (underlying t).run P w = .ok d w := by
 simp [underlying,h]
theorem add_mk (b off n : Nat) : Addr.add ⟨b,off,none⟩ n = ⟨b,off + n,none⟩ := by
 unfold Addr.add; split
 · rename_i h; simp [h]
 · rfl
def mkv (P : Program) (t : TypeId) (cells : List AV) : AP AV :=
 match aggT P t with
 | some true=>match szOf P t with
   | some s=>if s ≤ cells.length then .ret (.agg (cells.take s)) else .fail
   | none => .fail
 | some false=>match cells with
   | x :: _ => .ret x
   | [] => .fail
 | none => .fail
theorem loadVar_run {P : Program} {w : World} {t : TypeId} {cells : List AV} {b off : Nat} {R : AV → Value → Prop}
   (hc : ∀ i x,cells[i]? = some x → ∃ v,w.cell? ⟨b,off + i,none⟩ = some v ∧ R x v) {H : NL ABlk} {out : Out AV} (h : (mkv P t cells).run H = some out) :
   out = ⟨out.val,H,[],[],True⟩ ∧ ∃ v,(loadVar t ⟨b,off,none⟩).run P w = .ok v w ∧
     ((∃ s vs,aggT P t = some true ∧ szOf P t = some s ∧ s ≤ cells.length ∧ out.val = .agg (cells.take s) ∧ v = .agg vs ∧ vs.size = s ∧ ∀ i x,i < s → cells[i]? = some x → ∃ u,vs[i]? = some u ∧ R x u) ∨
      (aggT P t = some false ∧ cells[0]? = some out.val ∧ R out.val v)):=by
 unfold mkv at h
 cases ha : aggT P t with
 | none=>simp [ha,AP.run] at h
 | some bb =>
   cases bb with
   | true =>
     cases hs : szOf P t with
     | none=>simp [ha,hs,AP.run] at h
     | some s =>
       simp only [ha,hs] at h
       split at h
       · rename_i hle
         simp only [AP.run,Option.some.injEq] at h
         subst h
         refine ⟨rfl, ?_⟩
         -- the cells' values
         have hex : ∀ i,i < cells.length → ∃ v,w.cell? ⟨b,off + i,none⟩ = some v ∧ ∀ x,cells[i]? = some x → R x v:=by
           intro i hi
           obtain ⟨v,hv,hr⟩:=hc i _ (List.getElem?_eq_getElem hi)
           exact ⟨v,hv,fun x hx=>by rw [List.getElem?_eq_getElem hi] at hx; cases hx; exact hr⟩
         have hf : ∀ i, ∃ v : Value,i < cells.length → w.cell? ⟨b,off + i,none⟩ = some v ∧ ∀ x,cells[i]? = some x → R x v:=by
           intro i
           by_cases hi : i < cells.length
           · obtain ⟨v,hv⟩:=hex i hi; exact ⟨v,fun _=>hv⟩
           · exact ⟨undef,fun h=>absurd h hi⟩
         obtain ⟨f,hf⟩:=Classical.axiomOfChoice hf
         have hrun:=run_loadCells (P:=P) w ⟨b,off,none⟩ s f (fun j hj=>by rw [add_mk]; exact (hf j (by omega)).1)
         refine ⟨.agg ((List.range s).map f).toArray, ?_, .inl ⟨s,((List.range s).map f).toArray,rfl,rfl,hle,rfl,rfl, ?_, ?_⟩⟩
         · simp only [loadVar,Sem.run_bind,run_isAgg' ha,Result.andThen_ok,if_true,run_sizeOf' hs,hrun,Sem.run_pure]
         · simp
         · intro i x hi hx
           exact ⟨f i,by simp [hi],(hf i (by omega)).2 x hx⟩
       · simp [AP.run] at h
   | false =>
     simp only [ha] at h
     cases cells with
     | nil=>simp [AP.run] at h
     | cons x r =>
       simp only [AP.run,Option.some.injEq] at h
       subst h
       obtain ⟨v,hv,hr⟩:=hc 0 x (by simp)
       refine ⟨rfl,v, ?_, .inr ⟨rfl,by simp,hr⟩⟩
       simp only [loadVar,Sem.run_bind,run_isAgg' ha,Result.andThen_ok,Bool.false_eq_true,if_false,run_load]
       simp only [Nat.add_zero] at hv
       simp [hv]
theorem RepL.take {E : Env} {xs : List AV} {vs : List Value} (h : RepL E xs vs) (k : Nat) : RepL E (xs.take k) (vs.take k) :=
 RepL.of_get (by rw [List.length_take,List.length_take,h.length]) fun i x hx=>by
   rw [List.getElem?_take] at hx ⊢
   split at hx
   · rename_i hi; rw [if_pos hi]; exact h.get hx
   · cases hx
theorem RepL.drop {E : Env} {xs : List AV} {vs : List Value} (h : RepL E xs vs) (k : Nat) : RepL E (xs.drop k) (vs.drop k) :=
 RepL.of_get (by rw [List.length_drop,List.length_drop,h.length]) fun i x hx=>by
   rw [List.getElem?_drop] at hx ⊢
   exact h.get hx
theorem mkv_load {P : Program} {E : Env} {t : TypeId} {cells : List AV} {b off : Nat}
   (hc : ∀ i x,cells[i]? = some x → ∃ v,E.w.cell? ⟨b,off + i,none⟩ = some v ∧ Rep E x v) {H : NL ABlk} {out : Out AV} (h : (mkv P t cells).run H = some out) :
   out = ⟨out.val,H,[],[],True⟩ ∧ ∃ v,(loadVar t ⟨b,off,none⟩).run P E.w = .ok v E.w ∧ Rep E out.val v:=by
 obtain ⟨h1,v,h2,h3⟩:=loadVar_run hc h
 refine ⟨h1,v,h2, ?_⟩
 rcases h3 with ⟨s,vs,_,_,hle,ho,hv,hsz,hg⟩ | ⟨_,_,hr⟩
 · rw [ho]
   simp only [Rep]
   refine ⟨vs,hv,RepL.of_get (by simp [hsz]; omega) fun i x hx=>?_⟩
   rw [List.getElem?_take] at hx
   split at hx
   · rename_i hi
     obtain ⟨u,hu,hr⟩:=hg i x hi hx
     exact ⟨u,by simpa using hu,hr⟩
   · cases hx
 · exact hr
def Snd (P : Program) (E : Env) (H : NL ABlk) (p : AP AV) (c : Sem Value) : Prop :=
 ∀ out,p.run H = some out → ∃ v E',c.run P E.w = .ok v E'.w ∧ E'.H = lk out.H ∧ HR E' ∧ Step E E' ∧ Rep E' out.val v ∧ out.as
theorem Snd.fail {P : Program} {E : Env} {H : NL ABlk} {c : Sem Value} : Snd P E H .fail c := fun _ h => by simp [AP.run] at h
theorem Snd.ret {P : Program} {E : Env} {H : NL ABlk} {c : Sem Value} {x : AV} {v : Value} (hH : E.H = lk H) (hr : HR E) (h : c.run P E.w = .ok v E.w) (hx : Rep E x v) : Snd P E H (.ret x) c :=
 fun out h'=>by
   simp only [AP.run,Option.some.injEq] at h'
   subst h'
   exact ⟨v,E,h,hH,hr,Step.refl E,hx,trivial⟩
theorem Snd.get {P : Program} {E : Env} {H : NL ABlk} {c : Sem Value} {id : Nat} {k : ABlk → AP AV} {b : ABlk} (hb : lk H id = some b) (h : Snd P E H (k b) c) : Snd P E H (.get id k) c :=
 fun out h'=>by
   simp only [AP.run,hb] at h'
   split at h'
   · rename_i o ho
     simp only [Option.some.injEq] at h'
     subst h'
     exact h o ho
   · cases h'
theorem Snd.asm {P : Program} {E : Env} {H : NL ABlk} {c : Sem Value} {p : Prop} {k : AP AV} (hp : p) (h : Snd P E H k c) : Snd P E H (.asm p k) c :=
 fun out h'=>by
   simp only [AP.run] at h'
   split at h'
   · rename_i o ho
     simp only [Option.some.injEq] at h'
     subst h'
     obtain ⟨v,E',h1,h2,h3,h4,h5,h6⟩:=h o ho
     exact ⟨v,E',h1,h2,h3,h4,h5,hp,h6⟩
   · cases h'
theorem Snd.of_pure {P : Program} {E : Env} {H : NL ABlk} {c : Sem Value} {p : AP AV} (hH : E.H = lk H) (hr : HR E)
   (h : ∀ out,p.run H = some out → out.H = H ∧ out.as ∧ ∃ v,c.run P E.w = .ok v E.w ∧ Rep E out.val v) : Snd P E H p c :=
 fun out ho=>by
   obtain ⟨h1,h2,v,h3,h4⟩:=h out ho
   exact ⟨v,E,h3,by rw [h1]; exact hH,hr,Step.refl E,h4,h2⟩
def loadA (P : Program) (t : TypeId) (x : AV) : AP AV :=
 match x with
 | .ptr id g r o => .get id fun b =>
   if b.gen = g ∧ (b.kind = 1 ∨ b.kind = 2) then
     match b.rows[r]? with
     | some row=>mkv P t (row.drop o)
     | none => .fail
   else .fail
 | .cptr cells=>mkv P t cells
 | _ => .fail
theorem cell_of_heap {w : World} {b i : Nat} {C : Array Value} {t : TypeId} {fr : Nat × Nat} (h : w.heap[b]? = some (.cells C t fr)) : w.cell? ⟨b,i,none⟩ = C[i]? := by
 simp [World.cell?,h]
theorem load_snd {P : Program} {E : Env} {H : NL ABlk} (hH : E.H = lk H) (hr : HR E) {t : TypeId} {x : AV} {v : Value} (hx : Rep E x v) :
   Snd P E H (loadA P t x) (Instr.loadAt t v):=by
 cases x with
 | ptr id g r o =>
   simp only [Rep] at hx
   obtain ⟨blk,a,hb,hle,rfl,hg⟩:=hx
   simp only [loadA]
   rw [hH] at hb
   refine Snd.get hb ?_
   split
   · rename_i hc
     obtain ⟨hk,rfl⟩:=hg hc.1
     cases hrow : blk.rows[r]? with
     | none=>exact Snd.fail
     | some row =>
       refine Snd.of_pure hH hr fun out ho=>?_
       obtain ⟨C,hC,hcs,hsz,hle,hlen,hcell⟩:=hr.cells (by rw [hH]; exact hb) hk
       obtain ⟨e1,u,e2,e3⟩:=mkv_load (b:=E.φ id) (off:=r * blk.size + o) (fun i x hx=>by
         rw [List.getElem?_drop] at hx
         obtain ⟨u,hu,_,hru⟩:=hcell r row (o + i) x hrow hx
         refine ⟨u, ?_,hru.rep⟩
         have hpos : 0 < E.cs id:=by rw [← hcs]; have:=(Array.getElem?_eq_some_iff.1 hu).1; omega
         rw [cell_of_heap (hC hpos), ← hu]
         congr 1; omega) ho
       rw [e1]
       refine ⟨rfl,trivial,u, ?_,e3⟩
       simp only [Instr.loadAt,Instr.sureAddr,Sem.run_bind,Sem.run_pure,Result.andThen_ok]
       exact e2
   · exact Snd.fail
 | cptr cells =>
   simp only [Rep,RepI] at hx
   obtain ⟨b,off,rfl,hi,hc⟩:=hx
   simp only [loadA]
   refine Snd.of_pure hH hr fun out ho=>?_
   obtain ⟨e1,u,e2,e3⟩:=mkv_load (E:=E) (b:=b) (off:=off) (fun i x hx=>by
     obtain ⟨u,hu,_,hru⟩:=hc.get hx
     exact ⟨u,hu,hru.rep⟩) ho
   rw [e1]
   refine ⟨rfl,trivial,u, ?_,e3⟩
   simp only [Instr.loadAt,Instr.sureAddr,Sem.run_bind,Sem.run_pure,Result.andThen_ok]
   exact e2
 | _=>exact Snd.fail
end
section
def ofFlat : Value → AV
 | .bool b => .bool b
 | .int k n => .int k n
 | .string s => .str s
 | .pointer none => .nilp
 | .slice none 0 0 => .nils
 | .map none => .nilm
 | .nilFunc => .nilf
 | .func f fs cs=>if fs.size = 0 ∧ cs.size = 0 then .fn f [] [] else .any
 | _ => .any
def ofValue : Value → AV
 | .agg cs => .agg (cs.toList.map ofFlat)
 | .tuple cs => .tup (cs.toList.map ofFlat)
 | v=>ofFlat v
theorem ofFlat_rep {w : World} {I : Nat → Prop} (v : Value) : RepI w I (ofFlat v) v := by
 unfold ofFlat
 split <;> try (simp only [RepI]; done)
 split
 · rename_i f fs cs h
   simp only [RepI]
   have h1 : fs.toList = []:=by simpa using h.1
   have h2 : cs.toList = []:=by simpa using h.2
   exact ⟨fs,cs,rfl,by simp only [RepIL]; exact h1,by simp only [RepIL]; exact h2⟩
 · simp only [RepI]
theorem flats_rep {w : World} {I : Nat → Prop} : ∀ vs : List Value,RepIL w I (vs.map ofFlat) vs
 | []=>by simp only [List.map_nil,RepIL]
 | v :: r=>by simp only [List.map_cons,RepIL]; exact ⟨v,r,rfl,ofFlat_rep v,flats_rep r⟩
theorem ofValue_rep {w : World} {I : Nat → Prop} (v : Value) : RepI w I (ofValue v) v := by
 unfold ofValue
 split
 · simp only [RepI]; exact ⟨_,rfl,flats_rep _⟩
 · simp only [RepI]; exact ⟨_,rfl,flats_rep _⟩
 · exact ofFlat_rep v
def fieldAddrA (P : Program) (s : TypeId) (f : Nat) (x : AV) : AP AV :=
 match P.underlying s with
 | some (.struct fields)=>match fields[f]? with
   | some fl=>match szOf P fl.type with
     | some (_ + 1)=>match x with
       | .ptr id g r o => .ret (.ptr id g r (o + fl.offset))
       | .cptr cells => .ret (.cptr (cells.drop fl.offset))
       | _ => .fail
     | _ => .fail
   | none => .fail
 | _ => .fail
theorem add_add' (a : Addr) (n : Nat) (h : a.spot = none) : a.add n = ⟨a.block,a.off + n,none⟩ := by
 obtain ⟨b,o,s⟩:=a
 simp only at h; subst h
 exact add_mk b o n
theorem ptr_add {E : Env} {id g r o k : Nat} {v : Value} (h : Rep E (.ptr id g r o) v) : ∃ a,v = .pointer (some a) ∧ Rep E (.ptr id g r (o + k)) (.pointer (some (a.add k))) := by
 simp only [Rep] at h ⊢
 obtain ⟨blk,a,hb,hle,rfl,hg⟩:=h
 refine ⟨a,rfl,blk,_,hb,hle,rfl,fun e=>?_⟩
 obtain ⟨h1,rfl⟩:=hg e
 exact ⟨h1,by rw [add_mk,Nat.add_assoc]⟩
theorem cptr_add {E : Env} {cells : List AV} {k : Nat} {v : Value} (h : Rep E (.cptr cells) v) : ∃ a,v = .pointer (some a) ∧ Rep E (.cptr (cells.drop k)) (.pointer (some (a.add k))) := by
 simp only [Rep,RepI] at h ⊢
 obtain ⟨b,off,rfl,hi,hc⟩:=h
 exact ⟨_,rfl,b,off + k,by rw [add_mk],hi,hc.drop k⟩
theorem fieldAddr_snd {P : Program} {E : Env} {H : NL ABlk} (hH : E.H = lk H) (hr : HR E) {s : TypeId} {f : Nat} {x : AV} {v : Value} (hx : Rep E x v) :
   Snd P E H (fieldAddrA P s f x) (Instr.fieldAt s v f):=by
 unfold fieldAddrA
 cases hu : P.underlying s with
 | none=>exact Snd.fail
 | some d =>
   cases d with
   | struct fields =>
     dsimp only
     cases hf : fields[f]? with
     | none=>exact Snd.fail
     | some fl =>
       dsimp only
       cases hs : szOf P fl.type with
       | none=>exact Snd.fail
       | some n =>
         cases n with
         | zero=>exact Snd.fail
         | succ n =>
           dsimp only
           cases x with
           | ptr id g r o =>
             obtain ⟨a,rfl,h⟩:=ptr_add (k:=fl.offset) hx
             refine Snd.ret hH hr ?_ h
             simp [Instr.fieldAt,run_underlying' hu,hf,Instr.sureAddr,fieldPlace,run_sizeOf' hs]
           | cptr cells =>
             obtain ⟨a,rfl,h⟩:=cptr_add (k:=fl.offset) hx
             refine Snd.ret hH hr ?_ h
             simp [Instr.fieldAt,run_underlying' hu,hf,Instr.sureAddr,fieldPlace,run_sizeOf' hs]
           | _=>exact Snd.fail
   | _=>exact Snd.fail
def indexAddrA (P : Program) (t : TypeId) (x ix : AV) : AP AV :=
 match ix with
 | .int _ n =>
   if 0 ≤ n then
     match P.underlying t with
     | some (.slice elem)=>match x with
       | .list size rows=>match rows[n.toNat]? with
         | some row=>if szOf P elem = some size then .ret (.cptr row) else .fail
         | none => .fail
       | .sl id g off len=>if n < len then .get id fun b=>if b.gen = g ∧ szOf P elem = some b.size then .ret (.ptr id g (off + n.toNat) 0) else .fail else .fail
       | _ => .fail
     | some (.array len elem)=>if n < len then match szOf P elem with
         | some s=>match x with
           | .ptr id g r o => .ret (.ptr id g r (o + n.toNat * s))
           | .cptr cells => .ret (.cptr (cells.drop (n.toNat * s)))
           | _ => .fail
         | none => .fail
       else .fail
     | _ => .fail
   else .fail
 | _ => .fail
theorem indexAddr_snd {P : Program} {E : Env} {H : NL ABlk} (hH : E.H = lk H) (hr : HR E) {t : TypeId} {x ix : AV} {v u : Value} (hx : Rep E x v) (hi : Rep E ix u) :
   Snd P E H (indexAddrA P t x ix) (Instr.indexAt t v u):=by
 unfold indexAddrA
 cases ix with
 | int k n =>
   simp only [Rep] at hi
   subst hi
   dsimp only
   split
   · rename_i hn
     cases hu : P.underlying t with
     | none=>exact Snd.fail
     | some d =>
       cases d with
       | slice elem =>
         dsimp only
         cases x with
         | list size rows =>
           dsimp only
           cases hrow : rows[n.toNat]? with
           | none=>exact Snd.fail
           | some row =>
             dsimp only
             split
             · rename_i hs
               simp only [Rep,RepI] at hx
               have hlt : n.toNat < rows.length:=(List.getElem?_eq_some_iff.1 hrow).1
               rcases hx with ⟨_,rfl⟩ | ⟨a,cap,rfl,h1,h2,h3,h4⟩
               · simp at hrow
               · have hne : rows ≠ []:=by intro e; subst e; simp at hlt
                 obtain ⟨hsp,him⟩:=h3 hne
                 have hg:=h4.get hrow
                 refine Snd.ret hH hr (v := .pointer (some (a.add (n.toNat * size)))) ?_ ?_
                 · have hlt' : n < (rows.length : Int):=by omega
                   simp [Instr.indexAt,asIntOf,run_underlying' hu,hn,hlt',run_sizeOf' hs]
                 · simp only [Rep,RepI]
                   refine ⟨a.block,a.off + n.toNat * size,by rw [add_add' a _ hsp],him, ?_⟩
                   exact hg.2
             · exact Snd.fail
         | sl id g off len =>
           dsimp only
           split
           · rename_i hlt
             simp only [Rep] at hx
             obtain ⟨blk,a,len',cap,hb,hle,rfl,hg⟩:=hx
             refine Snd.get (by rw [← hH]; exact hb) ?_
             split
             · rename_i hc
               obtain ⟨hk,rfl,h1,h2,h3⟩:=hg hc.1
               obtain ⟨rfl,h4⟩:=h3 (by omega)
               refine Snd.ret hH hr (v := .pointer (some ⟨E.φ id,off * blk.size + n.toNat * blk.size,none⟩)) ?_ ?_
               · simp [Instr.indexAt,asIntOf,run_underlying' hu,hn,hlt,run_sizeOf' hc.2,add_mk]
               · simp only [Rep]
                 exact ⟨blk,_,hb,hle,rfl,fun _=>⟨hk,by rw [Nat.add_mul,Nat.add_zero]⟩⟩
             · exact Snd.fail
           · exact Snd.fail
         | _=>exact Snd.fail
       | array len elem =>
         dsimp only
         split
         · rename_i hlt
           cases hs : szOf P elem with
           | none=>exact Snd.fail
           | some s =>
             dsimp only
             cases x with
             | ptr id g r o =>
               obtain ⟨a,rfl,h⟩:=ptr_add (k:=n.toNat * s) hx
               refine Snd.ret hH hr ?_ h
               simp [Instr.indexAt,asIntOf,run_underlying' hu,Instr.sureAddr,hn,hlt,run_sizeOf' hs]
             | cptr cells =>
               obtain ⟨a,rfl,h⟩:=cptr_add (k:=n.toNat * s) hx
               refine Snd.ret hH hr ?_ h
               simp [Instr.indexAt,asIntOf,run_underlying' hu,Instr.sureAddr,hn,hlt,run_sizeOf' hs]
             | _=>exact Snd.fail
         · exact Snd.fail
       | _=>exact Snd.fail
   · exact Snd.fail
 | _=>exact Snd.fail
def partA (P : Program) (t : TypeId) (cells : List AV) (off : Nat) : AP AV :=
 match aggT P t with
 | some true=>match szOf P t with
   | some s => .ret (.agg ((cells.drop off).take s))
   | none => .fail
 | some false=>match cells[off]? with
   | some x => .ret x
   | none => .fail
 | none => .fail
theorem part_snd {P : Program} {E : Env} {H : NL ABlk} (hH : E.H = lk H) (hr : HR E) {t : TypeId} {cells : List AV} {cs : Array Value} {off : Nat} (hx : RepL E cells cs.toList) :
   Snd P E H (partA P t cells off) (part t cs off):=by
 unfold partA
 cases ha : aggT P t with
 | none=>exact Snd.fail
 | some b =>
   cases b with
   | true =>
     dsimp only
     cases hs : szOf P t with
     | none=>exact Snd.fail
     | some s =>
       refine Snd.ret hH hr (v := .agg (cs.extract off (off + s))) ?_ ?_
       · simp [part,run_isAgg' ha,run_sizeOf' hs]
       · simp only [Rep]
         refine ⟨_,rfl, ?_⟩
         rw [Array.toList_extract,List.extract_eq_take_drop,show off + s - off = s from by omega]
         exact (hx.drop off).take s
   | false =>
     dsimp only
     cases hc : cells[off]? with
     | none=>exact Snd.fail
     | some x =>
       obtain ⟨v,hv,hr'⟩:=hx.get hc
       refine Snd.ret hH hr (v:=v) ?_ hr'
       have hv' : cs[off]? = some v:=by simpa using hv
       simp [part,run_isAgg' ha,hv']
def fieldA (P : Program) (t : TypeId) (f : Nat) (x : AV) : AP AV :=
 match P.underlying t with
 | some (.struct fields)=>match fields[f]? with
   | some fl=>match x with
     | .agg cells=>partA P fl.type cells fl.offset
     | _ => .fail
   | none => .fail
 | _ => .fail
theorem field_snd {P : Program} {E : Env} {H : NL ABlk} (hH : E.H = lk H) (hr : HR E) {t : TypeId} {f : Nat} {x : AV} {v : Value} (hx : Rep E x v) :
   Snd P E H (fieldA P t f x) (Instr.field t v f):=by
 unfold fieldA
 cases hu : P.underlying t with
 | none=>exact Snd.fail
 | some d =>
   cases d with
   | struct fields =>
     dsimp only
     cases hf : fields[f]? with
     | none=>exact Snd.fail
     | some fl =>
       cases x with
       | agg cells =>
         simp only [Rep] at hx
         obtain ⟨cs,rfl,hc⟩:=hx
         have h:=part_snd (P:=P) hH hr (t:=fl.type) (off:=fl.offset) hc
         intro out ho
         obtain ⟨v,E',h1,h2⟩:=h out ho
         refine ⟨v,E', ?_,h2⟩
         simpa [Instr.field,run_underlying' hu,hf,asAgg] using h1
       | _=>exact Snd.fail
   | _=>exact Snd.fail
def indexA (P : Program) (t : TypeId) (x ix : AV) : AP AV :=
  match ix with
  | .int _ n =>
    if 0 ≤ n then
      match P.underlying t with
      | some (.array len elem)=>if n < len then match szOf P elem with
          | some s=>match x with
            | .agg cells=>partA P elem cells (n.toNat * s)
            | _ => .fail
          | none => .fail
        else .fail
      | some .string=>match x with
        | .str s=>match s[n.toNat]? with
          | some b => .ret (.int .u8 b.toNat)
          | none => .fail
        | _ => .fail
      | _ => .fail
    else .fail
  | _ => .fail
theorem index_snd {P : Program} {E : Env} {H : NL ABlk} (hH : E.H = lk H) (hr : HR E) {t : TypeId} {x ix : AV} {v u : Value} (hx : Rep E x v) (hi : Rep E ix u) :
   Snd P E H (indexA P t x ix) (Instr.index t v u):=by
 unfold indexA
 cases ix with
 | int k n =>
   simp only [Rep] at hi
   subst hi
   dsimp only
   split
   · rename_i hn
     cases hu : P.underlying t with
     | none=>exact Snd.fail
     | some d =>
       cases d with
       | array len elem =>
         dsimp only
         split
         · rename_i hlt
           cases hs : szOf P elem with
           | none=>exact Snd.fail
           | some s =>
             dsimp only
             cases x with
             | agg cells =>
               simp only [Rep] at hx
               obtain ⟨cs,rfl,hc⟩:=hx
               have h:=part_snd (P:=P) hH hr (t:=elem) (off:=n.toNat * s) hc
               intro out ho
               obtain ⟨v,E',h1,h2⟩:=h out ho
               refine ⟨v,E', ?_,h2⟩
               simpa [Instr.index,asIntOf,run_underlying' hu,hn,hlt,run_sizeOf' hs] using h1
             | _=>exact Snd.fail
         · exact Snd.fail
       | string =>
         dsimp only
         cases x with
         | str s =>
           dsimp only
           simp only [Rep] at hx
           subst hx
           cases hb : s[n.toNat]? with
           | none=>exact Snd.fail
           | some b =>
             refine Snd.ret hH hr (v := .int .u8 b.toNat) ?_ (by simp only [Rep])
             simp [Instr.index,asIntOf,run_underlying' hu,hn,hb]
         | _=>exact Snd.fail
       | _=>exact Snd.fail
   · exact Snd.fail
 | _=>exact Snd.fail
def extractA (x : AV) (i : Nat) : AP AV :=
 match x with
 | .tup vs=>match vs[i]? with
   | some v => .ret v
   | none => .fail
 | _ => .fail
theorem extract_snd {P : Program} {E : Env} {H : NL ABlk} (hH : E.H = lk H) (hr : HR E) {x : AV} {v : Value} {i : Nat} (hx : Rep E x v) :
   Snd P E H (extractA x i) (Instr.extract v i):=by
 unfold extractA
 cases x with
 | tup vs =>
   dsimp only
   simp only [Rep] at hx
   obtain ⟨cs,rfl,hc⟩:=hx
   cases h : vs[i]? with
   | none=>exact Snd.fail
   | some y =>
     obtain ⟨u,hu,hy⟩:=hc.get h
     have hu' : cs[i]? = some u:=by simpa using hu
     exact Snd.ret hH hr (by simp [Instr.extract,hu']) hy
 | _=>exact Snd.fail
def binOpA (op : BinOp) (x y : AV) : AP AV :=
 match x,y with
 | .int k a, .int k' b =>
   match op with
   | .shl=>if 0 ≤ b then .ret (.int k (k.wrap (a * 2 ^ min b.toNat k.bits))) else .fail
   | .shr=>if 0 ≤ b then .ret (.int k (a.fdiv (2 ^ min b.toNat k.bits))) else .fail
   | op=>if k = k' then
       match op with
       | .add => .ret (.int k (k.wrap (a + b)))
       | .sub => .ret (.int k (k.wrap (a - b)))
       | .mul => .ret (.int k (k.wrap (a * b)))
       | .quo=>if b = 0 then .fail else .ret (.int k (k.wrap (a.tdiv b)))
       | .rem=>if b = 0 then .fail else .ret (.int k (a.tmod b))
       | .and => .ret (.int k (k.wrap (BitVec.ofInt k.bits a &&& BitVec.ofInt k.bits b).toNat))
       | .or => .ret (.int k (k.wrap (BitVec.ofInt k.bits a ||| BitVec.ofInt k.bits b).toNat))
       | .xor => .ret (.int k (k.wrap (BitVec.ofInt k.bits a ^^^ BitVec.ofInt k.bits b).toNat))
       | .andNot => .ret (.int k (k.wrap (BitVec.ofInt k.bits a &&& ~~~ BitVec.ofInt k.bits b).toNat))
       | .eql => .ret (.bool (a == b))
       | .neq => .ret (.bool (a != b))
       | .lss => .ret (.bool (a < b))
       | .leq => .ret (.bool (a ≤ b))
       | .gtr => .ret (.bool (a > b))
       | .geq => .ret (.bool (a ≥ b))
       | _ => .fail
     else .fail
 | .str a, .str b =>
   match op with
   | .add=>if a.size + b.size ≤ maxLen then .ret (.str (a ++ b)) else .fail
   | .eql => .ret (.bool (a.toList == b.toList))
   | .neq => .ret (.bool (!(a.toList == b.toList)))
   | .lss => .ret (.bool (Op.bytesLess a.toList b.toList))
   | .leq => .ret (.bool (Op.bytesLess a.toList b.toList || a.toList == b.toList))
   | .gtr => .ret (.bool (!(Op.bytesLess a.toList b.toList || a.toList == b.toList)))
   | .geq => .ret (.bool (!(Op.bytesLess a.toList b.toList)))
   | _ => .fail
 | _,_ => .fail
theorem Snd.retInt {P : Program} {E : Env} {H : NL ABlk} {c : Sem Value} {k : IntKind} {n : Int} (hH : E.H = lk H) (hr : HR E) (h : c.run P E.w = .ok (.int k n) E.w) : Snd P E H (.ret (.int k n)) c :=
 Snd.ret hH hr h (by simp only [Rep])
theorem Snd.retBool {P : Program} {E : Env} {H : NL ABlk} {c : Sem Value} {b : Bool} (hH : E.H = lk H) (hr : HR E) (h : c.run P E.w = .ok (.bool b) E.w) : Snd P E H (.ret (.bool b)) c :=
 Snd.ret hH hr h (by simp only [Rep])
theorem Snd.retStr {P : Program} {E : Env} {H : NL ABlk} {c : Sem Value} {b : ByteArray} (hH : E.H = lk H) (hr : HR E) (h : c.run P E.w = .ok (.string b) E.w) : Snd P E H (.ret (.str b)) c :=
 Snd.ret hH hr h (by simp only [Rep])
theorem eqGuard_int {P : Program} {w : World} (op : BinOp) (t : TypeId) (x y : Operand) (k : IntKind) (n : Int) (v : Value) : (eqGuard op t x y (.int k n) v).run P w = .ok () w := by rw [eqGuard_at_int]; rfl
theorem eqGuard_str {P : Program} {w : World} (op : BinOp) (t : TypeId) (x y : Operand) (s : ByteArray) (v : Value) : (eqGuard op t x y (.string s) v).run P w = .ok () w := by rw [eqGuard_at_string]; rfl
theorem binOp_snd {P : Program} {E : Env} {H : NL ABlk} (hH : E.H = lk H) (hr : HR E) {op : BinOp} {t : TypeId} {ox oy : Operand} {x y : AV} {v u : Value} (hx : Rep E x v) (hy : Rep E y u) :
   Snd P E H (binOpA op x y) (do eqGuard op t ox oy v u; binOp op t v u):=by
 unfold binOpA
 cases x with
 | int k a =>
   cases y with
   | int k' b =>
     simp only [Rep] at hx hy
     subst hx; subst hy
     dsimp only
     cases op <;> dsimp only
     case shl =>
       split
       · rename_i hk; exact Snd.retInt hH hr (by simp [eqGuard_int,binOp,Op.shift,Int.not_lt.2 hk])
       · exact Snd.fail
     case shr =>
       split
       · rename_i hk; exact Snd.retInt hH hr (by simp [eqGuard_int,binOp,Op.shift,Int.not_lt.2 hk])
       · exact Snd.fail
     all_goals
       split
       · rename_i hk
         subst hk
         first
           | exact Snd.retInt hH hr (by simp [eqGuard_int,binOp,Op.intArith,Op.intBits])
           | exact Snd.retBool hH hr (by simp [eqGuard_int,binOp,Op.intCmp])
           | (split
              · exact Snd.fail
              · rename_i hb
                exact Snd.retInt hH hr (by simp [eqGuard_int,binOp,Op.intDiv,hb]))
       · exact Snd.fail
   | _=>exact Snd.fail
 | str a =>
   cases y with
   | str b =>
     simp only [Rep] at hx hy
     subst hx; subst hy
     dsimp only
     cases op <;> dsimp only
     case add =>
       split
       · rename_i hb
         simp only [maxLen] at hb
         have h' : ¬ (9223372036854775807 : Int) < (a.size : Int) + (b.size : Int):=by omega
         exact Snd.retStr hH hr (by simp [eqGuard_str,binOp,Op.stringOp,h'])
       · exact Snd.fail
     all_goals first
       | exact Snd.fail
       | exact Snd.retBool hH hr (by simp [eqGuard_str,binOp,Op.stringOp])
   | _=>exact Snd.fail
 | _=>exact Snd.fail
def unOpA (op : UnOp) (x : AV) : AP AV :=
 match op,x with
 | .not, .bool b => .ret (.bool (!b))
 | .neg, .int k n => .ret (.int k (k.wrap (0 - n)))
 | .xor, .int k n => .ret (.int k (k.wrap (BitVec.ofInt k.bits (if k.signed then -1 else k.max) ^^^ BitVec.ofInt k.bits n).toNat))
 | _,_ => .fail
theorem unOp_snd {P : Program} {E : Env} {H : NL ABlk} (hH : E.H = lk H) (hr : HR E) {op : UnOp} {x : AV} {v : Value} (hx : Rep E x v) :
   Snd P E H (unOpA op x) (Op.unary op v):=by
 unfold unOpA
 split
 · simp only [Rep] at hx; subst hx
   exact Snd.retBool hH hr (by simp [Op.unary])
 · simp only [Rep] at hx; subst hx
   exact Snd.retInt hH hr (by simp [Op.unary,Op.intArith])
 · simp only [Rep] at hx; subst hx
   exact Snd.retInt hH hr (by simp [Op.unary,Op.intBits])
 · exact Snd.fail
def bytesA : List (List AV) → Option (List Int)
 | []=>some []
 | [.int .u8 n] :: r=>(bytesA r).map (n :: ·)
 | _=>none
def strB (ns : List Int) : ByteArray := ns.foldl (fun r n => r.push (UInt8.ofNat n.toNat)) ByteArray.empty
theorem RepRows.bytes {w : World} {I : Nat → Prop} {b : Nat} : ∀ (rows : List (List AV)) (off : Nat) (ns : List Int),bytesA rows = some ns → RepRows w I rows b off 1 →
   rows.length = ns.length ∧ ∀ j v,(ns.map (Value.int .u8))[j]? = some v → w.cell? ⟨b,off + j,none⟩ = some v
 | [],off,ns,h,_=>by
   simp only [bytesA,Option.some.injEq] at h
   subst h
   exact ⟨rfl,fun j v hj=>by simp at hj⟩
 | r :: rs,off,ns,h,hr=>by
   unfold bytesA at h
   split at h
   · rename_i h0; cases h0
   · rename_i n r' e
     cases e
     obtain ⟨ms,hm,rfl⟩:=Option.map_eq_some_iff.1 h
     simp only [RepRows,RepC,RepI] at hr
     obtain ⟨_,⟨⟨u,hu,_,rfl⟩,_⟩,h3⟩:=hr
     have ih:=RepRows.bytes rs (off + 1) ms hm h3
     refine ⟨by simp [ih.1],fun j v hj=>?_⟩
     cases j with
     | zero =>
       simp only [List.map_cons,List.getElem?_cons_zero,Option.some.injEq] at hj
       subst hj
       exact hu
     | succ k =>
       simp only [List.map_cons,List.getElem?_cons_succ] at hj
       have:=ih.2 k v hj
       rwa [show off + (k + 1) = off + 1 + k by omega]
   · exact absurd h (by simp)
def convertA (P : Program) (src dst : TypeId) (x : AV) : AP AV :=
 match P.underlying src,P.underlying dst,x with
 | some _,some (.int k), .int _ n => .ret (.int k (k.wrap n))
 | some .string,some .string, .str s => .ret (.str s)
 | some (.slice e),some .string, .list 1 rows=>match P.underlying e,bytesA rows with
   | some (.int .u8),some ns => .ret (.str (strB ns))
   | _,_ => .fail
 | _,_,_ => .fail
theorem convert_snd {P : Program} {E : Env} {H : NL ABlk} (hH : E.H = lk H) (hr : HR E) {src dst : TypeId} {x : AV} {v : Value} (hx : Rep E x v) :
   Snd P E H (convertA P src dst x) (convert src dst v):=by
 unfold convertA
 split
 · rename_i h1 h2
   simp only [Rep] at hx; subst hx
   exact Snd.retInt hH hr (by simp [convert,run_underlying' h1,run_underlying' h2,Conv.intToInt])
 · rename_i h1 h2
   simp only [Rep] at hx; subst hx
   exact Snd.retStr hH hr (by simp [convert,run_underlying' h1,run_underlying' h2])
 · rename_i e rows h1 h2
   split
   · rename_i ns he hb
     simp only [Rep,RepI] at hx
     rcases hx with ⟨rfl,rfl⟩ | ⟨a,cap,rfl,h3,h4,h5,h6⟩
     · simp only [bytesA,Option.some.injEq] at hb
       subst hb
       refine Snd.retStr hH hr ?_
       rw [run_convert_bytes_string _ src dst e _ _ _ h1 he h2]
       simp [Conv.bytesToString,strB]
     · refine Snd.retStr hH hr ?_
       have hc:=RepRows.bytes rows a.off ns hb h6
       have hl : (loadCells a rows.length).run P E.w = .ok (ns.map (Value.int .u8)).toArray E.w:=by
         have:=run_loadCells_list (P:=P) E.w a (ns.map (Value.int .u8)) (fun j v hj=>by
           have hn : rows ≠ []:=by
             rintro rfl
             have:=hc.1
             simp only [List.length_nil] at this
             have h0 : ns = []:=List.length_eq_zero_iff.1 this.symm
             subst h0
             simp at hj
           have hp : a.add j = ⟨a.block,a.off + j,none⟩:=by
             obtain ⟨b,o,sp⟩:=a
             have:=(h5 hn).1
             simp only at this
             subst this
             simp [Addr.add]
           rw [hp]
           exact hc.2 j v hj)
         simpa [hc.1] using this
       rw [run_convert_bytes_string _ src dst e _ _ _ h1 he h2,run_bytesToString E.w _ _ _ ns hl]
       rfl
   · exact Snd.fail
 · exact Snd.fail
def lenA (P : Program) (t : TypeId) (x : AV) : AP AV :=
 match P.underlying t,x with
 | some (.slice _), .nils => .ret (.int .i64 0)
 | some (.slice _), .list _ rows => .asm (rows.length ≤ maxLen) (.ret (.int .i64 rows.length))
 | some (.slice _), .sl id g _ len => .get id fun b=>if b.gen = g then .asm (len ≤ maxLen) (.ret (.int .i64 len)) else .fail
 | some .string, .str s => .ret (.int .i64 s.size)
 | some (.array n _),_ => .ret (.int .i64 n)
 | _,_ => .fail
theorem len_snd {P : Program} {E : Env} {H : NL ABlk} (hH : E.H = lk H) (hr : HR E) {t ty : TypeId} {x : AV} {v : Value} (hx : Rep E x v) :
   Snd P E H (lenA P t x) (Builtin.len_ #[t] ty #[v]):=by
 unfold lenA
 split
 · rename_i h1
   simp only [Rep] at hx; subst hx
   exact Snd.retInt hH hr (by simp [Builtin.len_,run_underlying' h1,goInt])
 · rename_i h1
   simp only [Rep,RepI] at hx
   rcases hx with ⟨rfl,rfl⟩ | ⟨a,cap,rfl,h2,h3,_⟩
   · refine Snd.asm (by simp) (Snd.retInt hH hr ?_)
     simp [Builtin.len_,run_underlying' h1,goInt]
   · refine Snd.asm (by omega) (Snd.retInt hH hr ?_)
     simp [Builtin.len_,run_underlying' h1,goInt]
 · rename_i h1
   simp only [Rep] at hx
   obtain ⟨blk,a,len',cap,hb,hle,rfl,hg⟩:=hx
   refine Snd.get (by rw [← hH]; exact hb) ?_
   split
   · rename_i hc
     obtain ⟨hk,rfl,h2,h3,h4⟩:=hg hc
     refine Snd.asm (by omega) (Snd.retInt hH hr ?_)
     simp [Builtin.len_,run_underlying' h1,goInt]
   · exact Snd.fail
 · rename_i h1
   simp only [Rep] at hx; subst hx
   exact Snd.retInt hH hr (by simp [Builtin.len_,run_underlying' h1,goInt])
 · rename_i h1
   exact Snd.retInt hH hr (by simp [Builtin.len_,run_underlying' h1,goInt])
 · exact Snd.fail
end
section
def upd {α : Type} (f : Nat → α) (i : Nat) (a : α) : Nat → α := fun k => if i = k then a else f k
theorem upd_same {α : Type} (f : Nat → α) (i : Nat) (a : α) : upd f i a i = a := by simp [upd]
theorem upd_other {α : Type} (f : Nat → α) (i : Nat) (a : α) {k : Nat} (h : i ≠ k) : upd f i a k = f k := by simp [upd,h]
theorem lk_st_upd {α : Type} (l : NL α) (i : Nat) (a : α) : lk (st l i a) = upd (lk l) i (some a) := lk_st_fun l i a
theorem HR.new {E : Env} (hr : HR E) {id : Nat} {blk : ABlk} {C : Array Value} {w' : World}
   (hsz' : w'.heap.size = E.w.heap.size + 1 ∧ w'.os = E.w.os ∧ w'.output = E.w.output ∧ w'.tape = E.w.tape) (hold : ∀ b,b < E.w.heap.size → w'.heap[b]? = E.w.heap[b]?) (hnew : w'.heap[E.w.heap.size]? = some (.cells C blk.elem (0,0)))
   (hk : blk.kind = 2) (hg : ∀ old,E.H id = some old → old.gen < blk.gen) (h0 : 0 < blk.size) (hle : blk.rows.length * blk.size ≤ C.size)
   (hlen : ∀ (r : Nat) (row : List AV),blk.rows[r]? = some row → row.length = blk.size)
   (hc : ∀ (r : Nat) (row : List AV) (j : Nat) (x : AV),blk.rows[r]? = some row → row[j]? = some x → ∃ u,C[r * blk.size + j]? = some u ∧ u.oneCell' = true ∧ CellR E blk.inl x u) :
   HR ⟨w',upd E.H id (some blk),upd E.φ id E.w.heap.size,upd E.cs id C.size,E.F⟩ ∧ Step E ⟨w',upd E.H id (some blk),upd E.φ id E.w.heap.size,upd E.cs id C.size,E.F⟩:=by
 have hsz:=hsz'.1
 have hs : Step E ⟨w',upd E.H id (some blk),upd E.φ id E.w.heap.size,upd E.cs id C.size,E.F⟩:=by
   refine ⟨by simp only; omega,fun b hb _=>hold b hb,rfl,fun k b hb=>?_,fun k b' hb hk' hc'=>?_,Kept.new hsz' hold (by rw [hnew]; rfl)⟩
   · by_cases e : id = k
     · subst e
       exact ⟨blk,by simp [upd_same],Nat.le_of_lt (hg b hb),fun e=>by have:=hg b hb; omega⟩
     · exact ⟨b,by simp [upd_other _ _ _ e,hb],Nat.le_refl _,fun _ _=>⟨.inl rfl,rfl,rfl,by simp [upd_other _ _ _ e],by simp [upd_other _ _ _ e]⟩⟩
   · by_cases e : id = k
     · subst e; right; simp [upd_same]
     · left
       exact ⟨k,b',by simpa [upd_other _ _ _ e] using hb,hk',by simpa [upd_other _ _ _ e] using hc',by simp [upd_other _ _ _ e], .inl rfl⟩
 refine ⟨⟨fun k b hb=>?_,fun i j bi bj hi hj ki kj ci cj hne=>?_,fun k b hb hk' hc'=>?_,fun b hb=>by have:=hr.fb b hb; simp only; omega⟩,hs⟩
 · by_cases e : id = k
   · subst e
     simp only [upd_same,Option.some.injEq] at hb
     subst hb
     refine BlkOK.mk_cells (.inr hk) ⟨C,fun _=>by simp only [upd_same]; exact hnew,by simp [upd_same],h0,hle,hlen,fun r row j x h1 h2=>?_⟩
     obtain ⟨u,hu,ho,hx⟩:=hc r row j x h1 h2
     exact ⟨u,hu,ho,hx.mono hs⟩
   · simp only [upd_other _ _ _ e] at hb
     exact BlkOK.mono hs (by simp [upd_other _ _ _ e]) (by simp [upd_other _ _ _ e]) (fun hz hc=>hold _ (hr.nf k b hb hz hc).1) (hr.blk k b hb)
 · by_cases e1 : id = i
   · subst e1
     have e2 : id ≠ j:=hne
     simp only [upd_same,upd_other _ _ _ e2] at hj cj ⊢
     have:=(hr.nf j bj hj kj cj).1
     omega
   · simp only [upd_other _ _ _ e1] at hi ci ⊢
     by_cases e2 : id = j
     · subst e2
       simp only [upd_same]
       have:=(hr.nf i bi hi ki ci).1
       omega
     · simp only [upd_other _ _ _ e2] at hj cj ⊢
       exact hr.inj i j bi bj hi hj ki kj ci cj hne
 · by_cases e : id = k
   · subst e
     simp only [upd_same]
     exact ⟨by omega,fun hf=>by have:=hr.fb _ hf; omega⟩
   · simp only [upd_other _ _ _ e] at hb hc' ⊢
     have:=hr.nf k b hb hk' hc'
     exact ⟨by omega,this.2⟩
theorem HR.phantom {E : Env} (hr : HR E) {id : Nat} {blk : ABlk} (hk : blk.kind = 2) (hg : ∀ old,E.H id = some old → old.gen < blk.gen) (h0 : 0 < blk.size) (hrows : blk.rows = []) :
   HR ⟨E.w,upd E.H id (some blk),E.φ,upd E.cs id 0,E.F⟩ ∧ Step E ⟨E.w,upd E.H id (some blk),E.φ,upd E.cs id 0,E.F⟩:=by
 have hs : Step E ⟨E.w,upd E.H id (some blk),E.φ,upd E.cs id 0,E.F⟩:=by
   refine ⟨Nat.le_refl _,fun b hb _=>rfl,rfl,fun k b hb=>?_,fun k b' hb hk' hc'=>?_,Kept.refl _⟩
   · by_cases e : id = k
     · subst e
       exact ⟨blk,by simp [upd_same],Nat.le_of_lt (hg b hb),fun e=>by have:=hg b hb; omega⟩
     · exact ⟨b,by simp [upd_other _ _ _ e,hb],Nat.le_refl _,fun _ _=>⟨.inl rfl,rfl,rfl,rfl,by simp [upd_other _ _ _ e]⟩⟩
   · by_cases e : id = k
     · subst e; simp [upd_same] at hc'
     · left
       exact ⟨k,b',by simpa [upd_other _ _ _ e] using hb,hk',by simpa [upd_other _ _ _ e] using hc',rfl, .inl rfl⟩
 refine ⟨⟨fun k b hb=>?_,fun i j bi bj hi hj ki kj ci cj hne=>?_,fun k b hb hk' hc'=>?_,hr.fb⟩,hs⟩
 · by_cases e : id = k
   · subst e
     simp only [upd_same,Option.some.injEq] at hb
     subst hb
     refine BlkOK.mk_cells (.inr hk) ⟨#[],fun hp=>by simp [upd_same] at hp,by simp [upd_same],h0,by simp [hrows],fun r row h=>by simp [hrows] at h,fun r row j x h=>by simp [hrows] at h⟩
   · simp only [upd_other _ _ _ e] at hb
     exact BlkOK.mono hs rfl (by simp [upd_other _ _ _ e]) (fun _ _=>rfl) (hr.blk k b hb)
 · by_cases e1 : id = i
   · subst e1; simp [upd_same] at ci
   · by_cases e2 : id = j
     · subst e2; simp [upd_same] at cj
     · simp only [upd_other _ _ _ e1,upd_other _ _ _ e2] at hi hj ci cj
       exact hr.inj i j bi bj hi hj ki kj ci cj hne
 · by_cases e : id = k
   · subst e; simp [upd_same] at hc'
   · simp only [upd_other _ _ _ e] at hb hc'
     exact hr.nf k b hb hk' hc'
theorem HR.write {E : Env} (hr : HR E) {id : Nat} {blk blk' : ABlk} {C : Array Value} {w' : World} (hb : E.H id = some blk) (hk : blk.kind = 2) (hcp : 0 < E.cs id)
   (hsz' : w'.heap.size = E.w.heap.size ∧ w'.os = E.w.os ∧ w'.output = E.w.output ∧ w'.tape = E.w.tape) (hold : ∀ b,b ≠ E.φ id → w'.heap[b]? = E.w.heap[b]?) (hnew : w'.heap[E.φ id]? = some (.cells C blk.elem (0,0))) (hcs : C.size = E.cs id)
   (hk' : blk'.kind = 2) (hg : blk.gen ≤ blk'.gen) (hs : blk'.size = blk.size) (he : blk'.elem = blk.elem) (hle : blk'.rows.length * blk.size ≤ C.size)
   (hlen : ∀ (r : Nat) (row : List AV),blk'.rows[r]? = some row → row.length = blk.size)
   (hc : ∀ (r : Nat) (row : List AV) (j : Nat) (x : AV),blk'.rows[r]? = some row → row[j]? = some x → ∃ u,C[r * blk.size + j]? = some u ∧ u.oneCell' = true ∧ CellR E blk'.inl x u) :
   HR ⟨w',upd E.H id (some blk'),E.φ,E.cs,E.F⟩ ∧ Step E ⟨w',upd E.H id (some blk'),E.φ,E.cs,E.F⟩:=by
 have h0 : 0 < blk.size:=by obtain ⟨C0,_,_,h,_⟩:=hr.cells hb (.inr hk); exact h
 have hsz:=hsz'.1
 have hkept : Kept E.w w':=Kept.write hsz' hold (by obtain ⟨C0,h,_⟩:=hr.cells hb (.inr hk); rw [h hcp]; rfl) (by rw [hnew]; rfl)
 have hst : Step E ⟨w',upd E.H id (some blk'),E.φ,E.cs,E.F⟩:=by
   refine ⟨by simp only; omega,fun b _ hn=>hold b (fun e=>hn id blk hb (by omega) hcp e.symm),rfl,fun k b hbk=>?_,fun k b' hbk hkk hck=>?_,hkept⟩
   · by_cases e : id = k
     · subst e
       rw [hb] at hbk; cases hbk
       exact ⟨blk',by simp [upd_same],hg,fun _ _=>⟨.inl (by omega),hs,he,rfl,rfl⟩⟩
     · exact ⟨b,by simp [upd_other _ _ _ e,hbk],Nat.le_refl _,fun _ _=>⟨.inl rfl,rfl,rfl,rfl,rfl⟩⟩
   · left
     by_cases e : id = k
     · subst e; exact ⟨id,blk,hb,by omega,hck,rfl, .inl rfl⟩
     · exact ⟨k,b',by simpa [upd_other _ _ _ e] using hbk,hkk,hck,rfl, .inl rfl⟩
 refine ⟨⟨fun k b hbk=>?_,fun i j bi bj hi hj ki kj ci cj hne=>?_,fun k b hbk hkk hck=>?_,fun b hf=>by have:=hr.fb b hf; simp only; omega⟩,hst⟩
 · by_cases e : id = k
   · subst e
     simp only [upd_same,Option.some.injEq] at hbk
     subst hbk
     refine BlkOK.mk_cells (.inr hk') ⟨C,fun _=>by simp only [he]; exact hnew,hcs,by omega,by rw [hs]; exact hle,fun r row h1=>by rw [hs]; exact hlen r row h1,fun r row j x h1 h2=>?_⟩
     obtain ⟨u,hu,ho,hx⟩:=hc r row j x h1 h2
     exact ⟨u,by rw [hs]; exact hu,ho,hx.mono hst⟩
   · simp only [upd_other _ _ _ e] at hbk
     exact BlkOK.mono hst rfl rfl (fun hz hck=>hold _ (fun h=>hr.inj id k blk b hb hbk (by omega) hz hcp hck e h.symm)) (hr.blk k b hbk)
 · have hi' : ∃ b,E.H i = some b ∧ b.kind ≠ 0:=by
     by_cases e : id = i
     · subst e; exact ⟨blk,hb,by omega⟩
     · exact ⟨bi,by simpa [upd_other _ _ _ e] using hi,ki⟩
   have hj' : ∃ b,E.H j = some b ∧ b.kind ≠ 0:=by
     by_cases e : id = j
     · subst e; exact ⟨blk,hb,by omega⟩
     · exact ⟨bj,by simpa [upd_other _ _ _ e] using hj,kj⟩
   obtain ⟨b1,h1,k1⟩:=hi'
   obtain ⟨b2,h2,k2⟩:=hj'
   exact hr.inj i j b1 b2 h1 h2 k1 k2 ci cj hne
 · have hk2 : ∃ b,E.H k = some b ∧ b.kind ≠ 0:=by
     by_cases e : id = k
     · subst e; exact ⟨blk,hb,by omega⟩
     · exact ⟨b,by simpa [upd_other _ _ _ e] using hbk,hkk⟩
   obtain ⟨b1,h1,k1⟩:=hk2
   have:=hr.nf k b1 h1 k1 hck
   exact ⟨by simp only; omega,this.2⟩
theorem Snd.get' {P : Program} {E : Env} {H : NL ABlk} {c : Sem Value} {id : Nat} {k : ABlk → AP AV} (h : Snd P E H (k ((lk H id).getD {})) c) : Snd P E H (.get id k) c :=
 fun out h'=>by
   simp only [AP.run] at h'
   cases hb : lk H id with
   | none =>
     simp only [hb] at h'
     split at h'
     · rename_i o ho
       simp only [Option.some.injEq] at h'
       subst h'
       exact h o (by simpa [hb] using ho)
     · cases h'
   | some b =>
     simp only [hb] at h'
     split at h'
     · rename_i o ho
       simp only [Option.some.injEq] at h'
       subst h'
       exact h o (by simpa [hb] using ho)
     · cases h'
theorem Snd.put_ret {P : Program} {E : Env} {H : NL ABlk} {c : Sem Value} {id : Nat} {b : ABlk} {x : AV} (E' : Env) (v : Value) (hrun : c.run P E.w = .ok v E'.w) (hH : E'.H = upd (lk H) id (some b)) (hr : HR E') (hs : Step E E') (hx : Rep E' x v) :
   Snd P E H (.put id b (.ret x)) c:=fun out h=>by
 simp only [AP.run,Option.some.injEq] at h
 subst h
 exact ⟨v,E',hrun,by rw [lk_st_upd]; exact hH,hr,hs,hx,trivial⟩
def AV.cellish : AV → Bool
 | .any | .agg _ | .tup _ | .slc _ _ _ _ _=>false
 | _=>true
theorem oneCell_of {E : Env} {x : AV} {v : Value} (hx : Rep E x v) (hc : x.cellish = true) : v.oneCell' = true := by
 cases x <;> simp [AV.cellish] at hc <;> simp only [Rep,RepI] at hx
 case bool=>subst hx; rfl
 case int=>subst hx; rfl
 case str=>subst hx; rfl
 case nilp=>subst hx; rfl
 case ptr=>obtain ⟨_,_,_,_,rfl,_⟩:=hx; rfl
 case cptr=>obtain ⟨_,_,rfl,_⟩:=hx; rfl
 case nils=>subst hx; rfl
 case sl=>obtain ⟨_,_,_,_,_,_,rfl,_⟩:=hx; rfl
 case list=>rcases hx with ⟨rfl,_⟩ | ⟨_,_,rfl,_⟩ <;> rfl
 case nilf=>subst hx; rfl
 case fn=>obtain ⟨_,_,rfl,_⟩:=hx; rfl
 case nilm=>subst hx; rfl
 case amap=>obtain ⟨_,_,_,_,rfl,_⟩:=hx; rfl
 case psl=>obtain ⟨_,_,_,_,_,rfl,_⟩:=hx; rfl
def AV.isInl : AV → Bool
 | .fn _ [] []=>true
 | .ptr _ _ _ _ | .sl _ _ _ _ | .amap _ _ | .psl _ _ _ _ _ | .slc _ _ _ _ _ | .fn _ _ _ | .agg _ | .tup _=>false
 | _=>true
theorem isInl_rep {E : Env} {x : AV} {v : Value} (h : Rep E x v) (hi : x.isInl = true) : RepI E.w E.imm x v := by
 cases x with
 | fn f a b =>
   simp only [AV.isInl] at hi
   cases a <;> cases b <;> simp at hi
   simp only [Rep] at h
   obtain ⟨fs,cs,rfl,h1,h2⟩:=h
   simp only [RepL] at h1 h2
   simp only [RepI,RepIL]
   exact ⟨fs,cs,rfl,h1,h2⟩
 | ptr=>simp [AV.isInl] at hi
 | sl=>simp [AV.isInl] at hi
 | amap=>simp [AV.isInl] at hi
 | psl=>simp [AV.isInl] at hi
 | slc=>simp [AV.isInl] at hi
 | agg=>simp [AV.isInl] at hi
 | tup=>simp [AV.isInl] at hi
 | _=>exact h
def AV.cellsOf : AV → Option (List AV)
 | .any | .tup _=>none
 | .slc id g off len _=>some [.sl id g off len]
 | .agg cs=>some cs
 | x=>some [x]
theorem cellsOf_rep {E : Env} {x : AV} {cs : List AV} {v : Value} (h : x.cellsOf = some cs) (hx : Rep E x v) : RepL E cs v.cells.toList := by
 cases x <;> simp only [AV.cellsOf,Option.some.injEq,reduceCtorEq] at h
 case agg l=>subst h; simp only [Rep] at hx; obtain ⟨vs,rfl,h⟩:=hx; exact h
 case slc id g off len cap =>
   subst h
   simp only [Rep] at hx
   obtain ⟨blk,a,len',cap',h1,h2,rfl,h3, -⟩:=hx
   show RepL E [.sl id g off len] [Value.slice a len' cap']
   simp only [RepL,Rep]
   refine ⟨_,_,rfl,⟨blk,a,len',cap',h1,h2,rfl,fun hg=>?_⟩,rfl⟩
   obtain ⟨k1,k2,rfl,k4⟩:=h3 hg
   exact ⟨k1,k2,k4⟩
 all_goals
   subst h
   have ho:=oneCell_of hx rfl
   have : v.cells = #[v]:=by cases v <;> first | rfl | cases ho
   rw [this]
   simp only [RepL]
   exact ⟨v,[],rfl,hx,rfl⟩
def zeroA (P : Program) (t : TypeId) : Option AV := ((P.info? t).bind (·.zero)).map ofValue
theorem zeroA_run {P : Program} {t : TypeId} {x : AV} (h : zeroA P t = some x) : ∃ v,(∀ w,(zeroValue t).run P w = .ok v w) ∧ ∀ E,Rep E x v := by
 unfold zeroA at h
 cases hi : P.info? t with
 | none=>simp [hi] at h
 | some i =>
   cases hz : i.zero with
   | none=>simp [hi,hz] at h
   | some v =>
     simp only [hi,hz,Option.bind_some,Option.map_some,Option.some.injEq] at h
     subst h
     exact ⟨v,fun w=>by simp [zeroValue,typeInfo,hi,hz],fun E=>(ofValue_rep v).rep⟩
def newId (dst : Nat) : Nat := 16 * (dst + 1)
def newRowA (id : Nat) (elem : TypeId) (size : Nat) (inl : Bool) (rows : List (List AV)) (k : Nat → AV) : AP AV :=
 .get id fun old=>if 0 < size ∧ rows.all (fun r=>r.length == size && r.all fun x=>x.cellish && (!inl || x.isInl)) then .put id { gen:=old.gen + 1,kind:=2,elem,size,inl,rows } (.ret (k (old.gen + 1))) else .fail
theorem newRow_put {P : Program} {E : Env} {H : NL ABlk} (hH : E.H = lk H) (hr : HR E) {id : Nat} {elem : TypeId} {size : Nat} {inl : Bool} {rows : List (List AV)} {k : Nat → AV} {c : Sem Value} {C : Array Value} {v : Value} {w' : World}
   (hrun : c.run P E.w = .ok v w') (hsz : w'.heap.size = E.w.heap.size + 1 ∧ w'.os = E.w.os ∧ w'.output = E.w.output ∧ w'.tape = E.w.tape) (hold : ∀ b,b < E.w.heap.size → w'.heap[b]? = E.w.heap[b]?) (hnew : w'.heap[E.w.heap.size]? = some (.cells C elem (0,0)))
   (hle : rows.length * size ≤ C.size)
   (hc : ∀ (r : Nat) (row : List AV) (j : Nat) (x : AV),rows[r]? = some row → row[j]? = some x → ∃ u,C[r * size + j]? = some u ∧ Rep E x u)
   (hv : ∀ (E' : Env) (g : Nat),E'.w = w' → E'.H id = some { gen:=g,kind:=2,elem,size,inl,rows } → E'.φ id = E.w.heap.size → E'.cs id = C.size → Rep E' (k g) v)
   (h0 : 0 < size) (hrow : ∀ (r : Nat) (row : List AV),rows[r]? = some row → row.length = size ∧ ∀ x ∈ row,x.cellish = true ∧ (!inl || x.isInl) = true) :
   Snd P E H (.put id { gen:=((lk H id).getD {}).gen + 1,kind:=2,elem,size,inl,rows } (.ret (k (((lk H id).getD {}).gen + 1)))) c:=by
 generalize hgen : ((lk H id).getD {}).gen + 1 = g
 obtain ⟨h1,h2⟩:=hr.new (id:=id) (blk:={ gen:=g,kind:=2,elem,size,inl,rows }) hsz hold hnew rfl (fun old ho=>by rw [hH] at ho; simp [ho] at hgen; simp only; omega) h0 hle (fun r row h=>(hrow r row h).1)
   (fun r row j x h1 h2=>by
     obtain ⟨u,hu,hx⟩:=hc r row j x h1 h2
     have hxx:=(hrow r row h1).2 x (List.mem_of_getElem? h2)
     refine ⟨u,hu,oneCell_of hx hxx.1, ?_⟩
     cases inl
     · exact hx
     · exact isInl_rep hx (by simpa using hxx.2))
 refine Snd.put_ret _ v hrun ?_ h1 h2 (hv _ g rfl (by simp [upd_same]) (by simp [upd_same]) (by simp [upd_same]))
 simp only [hH]
theorem newRow_snd {P : Program} {E : Env} {H : NL ABlk} (hH : E.H = lk H) (hr : HR E) {id : Nat} {elem : TypeId} {size : Nat} {inl : Bool} {rows : List (List AV)} {k : Nat → AV} {c : Sem Value} {C : Array Value} {v : Value} {w' : World}
   (hrun : c.run P E.w = .ok v w') (hsz : w'.heap.size = E.w.heap.size + 1 ∧ w'.os = E.w.os ∧ w'.output = E.w.output ∧ w'.tape = E.w.tape) (hold : ∀ b,b < E.w.heap.size → w'.heap[b]? = E.w.heap[b]?) (hnew : w'.heap[E.w.heap.size]? = some (.cells C elem (0,0)))
   (hle : rows.length * size ≤ C.size)
   (hc : ∀ (r : Nat) (row : List AV) (j : Nat) (x : AV),rows[r]? = some row → row[j]? = some x → ∃ u,C[r * size + j]? = some u ∧ Rep E x u)
   (hv : ∀ (E' : Env) (g : Nat),E'.w = w' → E'.H id = some { gen:=g,kind:=2,elem,size,inl,rows } → E'.φ id = E.w.heap.size → E'.cs id = C.size → Rep E' (k g) v) :
   Snd P E H (newRowA id elem size inl rows k) c:=by
 refine Snd.get' ?_
 split
 · rename_i hcond
   obtain ⟨h0,hall⟩:=hcond
   refine newRow_put hH hr hrun hsz hold hnew hle hc hv h0 fun r row hrw=>?_
   have:=List.all_eq_true.1 hall row (List.mem_of_getElem? hrw)
   simp only [Bool.and_eq_true,beq_iff_eq,List.all_eq_true] at this
   exact this
 · exact Snd.fail
def boxA (elem : TypeId) (dst : Nat) (x : AV) : AP AV :=
 match x.cellsOf with
 | some cs=>newRowA (newId dst) elem cs.length false [cs] (fun g => .ptr (newId dst) g 0 0)
 | none => .fail
def allocA (P : Program) (elem : TypeId) (dst : Nat) : AP AV :=
 match zeroA P elem with
 | some x=>boxA elem dst x
 | none => .fail
theorem newVar_snd {P : Program} {E : Env} {H : NL ABlk} (hH : E.H = lk H) (hr : HR E) {elem : TypeId} {dst : Nat} {x : AV} {u : Value} (hx : Rep E x u) {c : Sem Value}
   (hrun : c.run P E.w = .ok (.pointer (some ⟨E.w.heap.size,0,none⟩)) (E.w.alloc (.cells u.cells elem))) : Snd P E H (boxA elem dst x) c:=by
 unfold boxA
 cases hc : x.cellsOf with
 | none=>exact Snd.fail
 | some cs =>
   have hl:=cellsOf_rep hc hx
   refine newRow_snd hH hr (C:=u.cells) hrun ⟨by simp,rfl,rfl,rfl⟩ (fun b hb=>heap_alloc_old _ _ _ hb) (heap_alloc_new _ _) ?_ ?_ ?_
   · have:=hl.length; simp at this ⊢; omega
   · intro r row j y h1 h2
     cases r with
     | zero =>
       simp only [List.getElem?_cons_zero,Option.some.injEq] at h1
       subst h1
       obtain ⟨w,hw,hy⟩:=hl.get h2
       exact ⟨w,by simpa using hw,hy⟩
     | succ r=>simp at h1
   · intro E' g hw hb hφ hcs
     simp only [Rep]
     exact ⟨_,_,hb,Nat.le_refl _,rfl,fun _=>⟨.inr rfl,by rw [hφ]; simp⟩⟩
theorem box_snd {P : Program} {E : Env} {H : NL ABlk} (hH : E.H = lk H) (hr : HR E) {elem : TypeId} {dst : Nat} {x : AV} {u : Value} (hx : Rep E x u) :
   Snd P E H (boxA elem dst x) (Instr.box elem u) :=
 newVar_snd hH hr hx (by simp [Instr.box,newVar,newRow])
theorem alloc_snd {P : Program} {E : Env} {H : NL ABlk} (hH : E.H = lk H) (hr : HR E) {elem : TypeId} {dst : Nat} :
   Snd P E H (allocA P elem dst) (Instr.alloc elem true (.tuple #[])):=by
 unfold allocA
 cases hz : zeroA P elem with
 | none=>exact Snd.fail
 | some x =>
   obtain ⟨u,hu,hx⟩:=zeroA_run hz
   exact newVar_snd hH hr (hx E) (by simp [Instr.alloc,hu,newVar,newRow])
end
section
theorem Snd.put_then {P : Program} {E E1 : Env} {H : NL ABlk} {c : Sem Value} {id : Nat} {b : ABlk} {p : AP AV} (hw : E1.w = E.w) (hs : Step E E1) (h : Snd P E1 (st H id b) p c) : Snd P E H (.put id b p) c := fun out ho => by
 simp only [AP.run] at ho
 split at ho
 · rename_i o hr
   simp only [Option.some.injEq] at ho
   subst ho
   obtain ⟨v,E',h1,h2,h3,h4,h5,h6⟩:=h o hr
   exact ⟨v,E',by rw [← hw]; exact h1,h2,h3,hs.trans h4,h5,h6⟩
 · cases ho
theorem HR.freeze {E : Env} (hr : HR E) {id : Nat} {blk : ABlk} (hb : E.H id = some blk) (hk : blk.kind = 2) :
   HR ⟨E.w,upd E.H id (some { blk with kind:=1 }),E.φ,E.cs,E.F⟩ ∧ Step E ⟨E.w,upd E.H id (some { blk with kind:=1 }),E.φ,E.cs,E.F⟩:=by
 have hst : Step E ⟨E.w,upd E.H id (some { blk with kind:=1 }),E.φ,E.cs,E.F⟩:=by
   refine ⟨Nat.le_refl _,fun b _ _=>rfl,rfl,fun k b hbk=>?_,fun k b' hbk hkk hck=>?_,Kept.refl _⟩
   · by_cases e : id = k
     · subst e
       rw [hb] at hbk; cases hbk
       exact ⟨{ blk with kind:=1 },by simp only [upd_same],Nat.le_refl _,fun _ _=>⟨.inr ⟨hk,rfl⟩,rfl,rfl,rfl,rfl⟩⟩
     · exact ⟨b,by simp [upd_other _ _ _ e,hbk],Nat.le_refl _,fun _ _=>⟨.inl rfl,rfl,rfl,rfl,rfl⟩⟩
   · left
     by_cases e : id = k
     · subst e
       simp only [upd_same,Option.some.injEq] at hbk
       subst hbk
       simp at hkk
     · exact ⟨k,b',by simpa [upd_other _ _ _ e] using hbk,hkk,hck,rfl, .inl rfl⟩
 have hex : ∀ k b,upd E.H id (some { blk with kind:=1 }) k = some b → ∃ b0,E.H k = some b0 ∧ (b.kind ≠ 0 → b0.kind ≠ 0):=by
   intro k b h
   by_cases e : id = k
   · subst e; simp only [upd_same,Option.some.injEq] at h; subst h; exact ⟨blk,hb,fun _=>by omega⟩
   · exact ⟨b,by simpa [upd_other _ _ _ e] using h,fun h=>h⟩
 refine ⟨⟨fun k b hbk=>?_,fun i j bi bj hi hj ki kj ci cj hne=>?_,fun k b hbk hkk hck=>?_,hr.fb⟩,hst⟩
 · by_cases e : id = k
   · subst e
     simp only [upd_same,Option.some.injEq] at hbk
     subst hbk
     obtain ⟨C,c1,c2,c3,c4,c5,c6⟩:=hr.cells hb (.inr hk)
     exact BlkOK.mk_cells (.inl rfl) ⟨C,c1,c2,c3,c4,c5,fun r row j x h1 h2=>by
       obtain ⟨u,d1,d2,d3⟩:=c6 r row j x h1 h2
       exact ⟨u,d1,d2,d3.mono hst⟩⟩
   · simp only [upd_other _ _ _ e] at hbk
     exact BlkOK.mono hst rfl rfl (fun _ _=>rfl) (hr.blk k b hbk)
 · obtain ⟨b1,h1,k1⟩:=hex i bi hi
   obtain ⟨b2,h2,k2⟩:=hex j bj hj
   exact hr.inj i j b1 b2 h1 h2 (k1 ki) (k2 kj) ci cj hne
 · obtain ⟨b1,h1,k1⟩:=hex k b hbk
   exact hr.nf k b1 h1 (k1 hkk) hck
theorem block_rows {w : World} {I : Nat → Prop} {blk : ABlk} {C : Array Value} {b off len : Nat} (hheap : w.heap[b]? = some (.cells C blk.elem (0,0)))
   (hlen : ∀ (r : Nat) (row : List AV),blk.rows[r]? = some row → row.length = blk.size)
   (hc : ∀ (r : Nat) (row : List AV) (j : Nat) (x : AV),blk.rows[r]? = some row → row[j]? = some x → ∃ u,C[r * blk.size + j]? = some u ∧ u.oneCell' = true ∧ RepI w I x u) :
   RepRows w I ((blk.rows.drop off).take len) b (off * blk.size) blk.size:=by
 refine RepRows.of_get fun i row h=>?_
 rw [List.getElem?_take] at h
 split at h
 · rw [List.getElem?_drop] at h
   refine ⟨hlen _ _ h,RepC.of_get fun j x hx=>?_⟩
   obtain ⟨u,h1,h2,h3⟩:=hc _ row j x h hx
   refine ⟨u, ?_,h2,h3⟩
   rw [cell_of_heap hheap, ← h1]
   congr 1
   rw [Nat.add_mul]
 · cases h
def frz1 (x : AV) (k : AV → AP AV) : AP AV :=
 match x with
 | .sl id g off len => .get id fun b =>
   if b.gen = g ∧ b.inl = true ∧ off + len ≤ b.rows.length then
     if b.kind = 2 then .put id { b with kind:=1 } (k (.list b.size ((b.rows.drop off).take len)))
     else if b.kind = 1 then k (.list b.size ((b.rows.drop off).take len)) else .fail
   else .fail
 | x=>if x.isInl then k x else .fail
def frzL : List AV → (List AV → AP AV) → AP AV
 | [],k=>k []
 | x :: r,k=>frz1 x fun x'=>frzL r fun r'=>k (x' :: r')
def frzV (x : AV) (k : AV → AP AV) : AP AV :=
 match x with
 | .agg cs=>frzL cs fun cs'=>k (.agg cs')
 | .tup cs=>frzL cs fun cs'=>k (.tup cs')
 | .fn f a b=>frzL a fun a'=>frzL b fun b'=>k (.fn f a' b')
 | x=>frz1 x k
def frzVs : List AV → (List AV → AP AV) → AP AV
 | [],k=>k []
 | x :: r,k=>frzV x fun x'=>frzVs r fun r'=>k (x' :: r')
theorem slice_inl {E : Env} (hr : HR E) {id : Nat} {blk : ABlk} (hb : E.H id = some blk) (hk : blk.kind = 1) (hi : blk.inl = true) {off len cap : Nat} {oa : Option Addr} (hle : off + len ≤ blk.rows.length) (h1 : len ≤ cap) (h2 : cap ≤ maxLen)
   (h3 : 0 < cap → oa = some ⟨E.φ id,off * blk.size,none⟩ ∧ (off + cap) * blk.size ≤ E.cs id) : RepI E.w E.imm (.list blk.size ((blk.rows.drop off).take len)) (.slice oa len cap):=by
 have hlen : ((blk.rows.drop off).take len).length = len:=by rw [List.length_take,List.length_drop]; omega
 simp only [RepI]
 cases oa with
 | none =>
   have hc : cap = 0:=by
     rcases Nat.eq_zero_or_pos cap with h | h
     · exact h
     · cases (h3 h).1
   subst hc
   have : len = 0:=by omega
   subst this
   exact .inl ⟨rfl,List.eq_nil_of_length_eq_zero hlen⟩
 | some a =>
   refine .inr ⟨a,cap,by rw [hlen],by rw [hlen]; exact h1,h2,fun hn=>?_, ?_⟩
   · have hp : 0 < len:=by rw [← hlen]; exact List.length_pos_iff.2 hn
     obtain ⟨ea,hcs⟩:=h3 (by omega)
     cases ea
     refine ⟨rfl, ?_⟩
     obtain ⟨C,c1,c2,c3,c4,c5,c6⟩:=hr.cells hb (.inl hk)
     have hcp : 0 < E.cs id:=by have : 0 < (off + cap) * blk.size:=Nat.mul_pos (by omega) c3; omega
     have hn:=hr.nf id blk hb (by omega) hcp
     refine ⟨hn.1,hn.2,fun id' blk' hb' hk' hc' e=>?_⟩
     by_cases ee : id' = id
     · subst ee; rw [hb] at hb'; cases hb'; omega
     · exact hr.inj id' id blk' blk hb' hb (by omega) (by omega) hc' hcp ee e
   · rcases Nat.eq_zero_or_pos len with hp | hp
     · have : (blk.rows.drop off).take len = []:=List.eq_nil_of_length_eq_zero (by rw [hlen]; exact hp)
       rw [this]; simp only [RepRows]
     · obtain ⟨ea,hcs⟩:=h3 (by omega)
       cases ea
       obtain ⟨C,c1,c2,c3,c4,c5,c6⟩:=hr.cells hb (.inl hk)
       have hcp : 0 < E.cs id:=by have : 0 < (off + cap) * blk.size:=Nat.mul_pos (by omega) c3; omega
       refine block_rows (c1 hcp) c5 fun r row j x q1 q2=>?_
       obtain ⟨u,d1,d2,d3⟩:=c6 r row j x q1 q2
       rw [hi] at d3
       exact ⟨u,d1,d2,d3⟩
theorem frz1_snd {P : Program} {E : Env} {H : NL ABlk} (hH : E.H = lk H) (hr : HR E) {x : AV} {v : Value} (hx : Rep E x v) {k : AV → AP AV} {c : Sem Value}
   (h : ∀ E1 H1 x',E1.w = E.w → E1.H = lk H1 → HR E1 → Step E E1 → RepI E1.w E1.imm x' v → x'.isInl = true → (x.cellish = true → x'.cellish = true) → Snd P E1 H1 (k x') c) : Snd P E H (frz1 x k) c:=by
 unfold frz1
 split
 · rename_i id g off len
   simp only [Rep] at hx
   obtain ⟨blk,oa,len',cap,hb,hle,rfl,hg⟩:=hx
   refine Snd.get (by rw [← hH]; exact hb) ?_
   split
   · rename_i hc
     obtain ⟨g1,g2,g3⟩:=hc
     obtain ⟨hk,rfl,h1,h2,h3⟩:=hg g1
     split
     · rename_i hk2
       obtain ⟨q1,q2⟩:=hr.freeze hb hk2
       refine Snd.put_then (E1:=⟨E.w,upd E.H id (some { blk with kind:=1 }),E.φ,E.cs,E.F⟩) rfl q2 (h ⟨E.w,upd E.H id (some { blk with kind:=1 }),E.φ,E.cs,E.F⟩ _ _ rfl (by rw [lk_st_upd,hH]) q1 q2 ?_ rfl (fun _=>rfl))
       exact slice_inl (blk:={ blk with kind:=1 }) q1 (by simp [upd_same]) rfl g2 g3 h1 h2 h3
     · split
       · rename_i hk1
         exact h _ _ _ rfl hH hr (Step.refl E) (slice_inl hr hb hk1 g2 g3 h1 h2 h3) rfl (fun _=>rfl)
       · exact Snd.fail
   · exact Snd.fail
 · split
   · rename_i hi
     exact h E H x rfl hH hr (Step.refl E) (isInl_rep hx hi) hi (fun h=>h)
   · exact Snd.fail
theorem frzL_snd {P : Program} {c : Sem Value} : ∀ {xs : List AV} {E : Env} {H : NL ABlk} (_ : E.H = lk H) (_ : HR E) {vs : List Value} (_ : RepL E xs vs) {k : List AV → AP AV}
   (_ : ∀ E1 H1 xs',E1.w = E.w → E1.H = lk H1 → HR E1 → Step E E1 → RepIL E1.w E1.imm xs' vs → xs'.length = xs.length → (xs'.all AV.isInl) = true → (xs.all AV.cellish = true → xs'.all AV.cellish = true) → Snd P E1 H1 (k xs') c),Snd P E H (frzL xs k) c
 | [],E,H,hH,hr,vs,hx,k,h=>h E H [] rfl hH hr (Step.refl E) (by simpa only [RepL,RepIL] using hx) rfl rfl (fun h=>h)
 | x :: r,E,H,hH,hr,vs,hx,k,h=>by
   simp only [RepL] at hx
   obtain ⟨v,vs',rfl,h1,h2⟩:=hx
   refine frz1_snd hH hr h1 fun E1 H1 x' e1 e2 e3 e4 e5 e6 e7=>?_
   refine frzL_snd e2 e3 (RepL.mono e4 _ _ h2) fun E2 H2 r' f1 f2 f3 f4 f5 f6 f7 f8=>?_
   refine h E2 H2 (x' :: r') (f1.trans e1) f2 f3 (e4.trans f4) ?_ (by simp [f6]) (by simp [e6,f7]) (fun hc=>?_)
   · simp only [RepIL]
     exact ⟨v,vs',rfl,RepI.mono f4.inl _ _ e5,f5⟩
   · simp only [List.all_cons,Bool.and_eq_true] at hc ⊢
     exact ⟨e7 hc.1,f8 hc.2⟩
theorem frzV_snd {P : Program} {E : Env} {H : NL ABlk} (hH : E.H = lk H) (hr : HR E) {x : AV} {v : Value} (hx : Rep E x v) {k : AV → AP AV} {c : Sem Value}
   (h : ∀ E1 H1 x',E1.w = E.w → E1.H = lk H1 → HR E1 → Step E E1 → RepI E1.w E1.imm x' v → Snd P E1 H1 (k x') c) : Snd P E H (frzV x k) c:=by
 unfold frzV
 split
 · simp only [Rep] at hx
   obtain ⟨cs,rfl,hc⟩:=hx
   refine frzL_snd hH hr hc fun E1 H1 xs' e1 e2 e3 e4 e5 _ _ _=>h E1 H1 _ e1 e2 e3 e4 ?_
   simp only [RepI]; exact ⟨cs,rfl,e5⟩
 · simp only [Rep] at hx
   obtain ⟨cs,rfl,hc⟩:=hx
   refine frzL_snd hH hr hc fun E1 H1 xs' e1 e2 e3 e4 e5 _ _ _=>h E1 H1 _ e1 e2 e3 e4 ?_
   simp only [RepI]; exact ⟨cs,rfl,e5⟩
 · simp only [Rep] at hx
   obtain ⟨fs,cs,rfl,h1,h2⟩:=hx
   refine frzL_snd hH hr h1 fun E1 H1 xs' e1 e2 e3 e4 e5 _ _ _=>?_
   refine frzL_snd e2 e3 (RepL.mono e4 _ _ h2) fun E2 H2 ys' f1 f2 f3 f4 f5 _ _ _=>h E2 H2 _ (f1.trans e1) f2 f3 (e4.trans f4) ?_
   simp only [RepI]; exact ⟨fs,cs,rfl,RepIL.mono f4.inl _ _ e5,f5⟩
 · exact frz1_snd hH hr hx fun E1 H1 x' e1 e2 e3 e4 e5 _ _=>h E1 H1 x' e1 e2 e3 e4 e5
end
end Go.Abs
