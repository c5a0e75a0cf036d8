/- Storing and appending, abstractly, with what each owes. Conditions: none. -/
import Derived.Test.YtphclapfniepoaaAb1
import Derived.Laws.CopyRow
import Derived.ChangeKeysEq
namespace Go.Abs
open Go
section
def splice {α : Type} (l : List α) (p : Nat) (vs : List α) : List α := l.take p ++ vs ++ l.drop (p + vs.length)
theorem splice_length {α : Type} {l : List α} {p : Nat} {vs : List α} (h : p + vs.length ≤ l.length) : (splice l p vs).length = l.length := by
 simp only [splice,List.length_append,List.length_take,List.length_drop]; omega
theorem splice_get {α : Type} {l : List α} {p : Nat} {vs : List α} (h : p + vs.length ≤ l.length) (i : Nat) :
   (splice l p vs)[i]? = if i < p then l[i]? else if i < p + vs.length then vs[i - p]? else l[i]?:=by
 have ht : (l.take p).length = p:=by rw [List.length_take]; omega
 unfold splice
 by_cases h1 : i < p
 · rw [if_pos h1,List.append_assoc,List.getElem?_append_left (by omega),List.getElem?_take,if_pos h1]
 · rw [if_neg h1]
   by_cases h2 : i < p + vs.length
   · rw [if_pos h2,List.getElem?_append_left (by rw [List.length_append]; omega),List.getElem?_append_right (by omega),ht]
   · rw [if_neg h2,List.getElem?_append_right (by rw [List.length_append]; omega),List.getElem?_drop]
     congr 1; rw [List.length_append]; omega
theorem mul_lt_block {r r' s j : Nat} (h : r < r') (hj : j < s) : r * s + j < r' * s := by
 have : (r + 1) * s ≤ r' * s:=Nat.mul_le_mul_right s h
 rw [Nat.add_mul] at this
 omega
def putCells (id g r o : Nat) (cs : List AV) : AP AV :=
 .get id fun b =>
   if b.gen = g ∧ b.kind = 2 ∧ cs.all (fun x=>x.cellish && (!b.inl || x.isInl)) = true then
     match b.rows[r]? with
     | some row=>if o + cs.length ≤ row.length then .put id { b with rows:=b.rows.set r (splice row o cs) } (.ret .any) else .fail
     | none => .fail
   else .fail
def storeA (P : Program) (t : TypeId) (a x : AV) : AP AV :=
 match a with
 | .ptr id g r o=>match x.cellsOf with
   | some cs=>if szOf P t = some cs.length then .get id fun b =>
       if b.inl then frzL cs fun cs'=>putCells id g r o cs' else putCells id g r o cs
     else .fail
   | none => .fail
 | _ => .fail
theorem cellR_of {E : Env} {x : AV} {u : Value} {inl : Bool} (hx : Rep E x u) (h : (x.cellish && (!inl || x.isInl)) = true) : u.oneCell' = true ∧ CellR E inl x u := by
 simp only [Bool.and_eq_true] at h
 refine ⟨oneCell_of hx h.1, ?_⟩
 cases inl
 · exact hx
 · exact isInl_rep hx (by simpa using h.2)
theorem putCells_snd {P : Program} {E : Env} {H : NL ABlk} (hH : E.H = lk H) (hr : HR E) {t : TypeId} {id g r o : Nat} {cs : List AV} {va vx : Value} (ha : Rep E (.ptr id g r o) va) (hl : RepL E cs vx.cells.toList) (hs : szOf P t = some cs.length) :
   Snd P E H (putCells id g r o cs) (do Instr.storeAt t va vx; pure undef):=by
 unfold putCells
 simp only [Rep] at ha
 obtain ⟨blk,ad,hb,hle,rfl,hg⟩:=ha
 refine Snd.get (by rw [← hH]; exact hb) ?_
 split
 · rename_i h2
   obtain ⟨h2a,h2b,hall⟩:=h2
   obtain ⟨_,rfl⟩:=hg h2a
   cases hrow : blk.rows[r]? with
   | none=>exact Snd.fail
   | some row =>
     dsimp only
     split
     · rename_i h3
       obtain ⟨C,hC,hcs,hsz,hlen,hrl,hcell⟩:=hr.cells hb (.inr h2b)
       have hrlen:=hrl r row hrow
       have hrlt : r < blk.rows.length:=(List.getElem?_eq_some_iff.1 hrow).1
       have hfit : r * blk.size + o + vx.cells.toList.length ≤ C.size:=by
         rw [hl.length]
         have : (r + 1) * blk.size ≤ blk.rows.length * blk.size:=Nat.mul_le_mul_right _ hrlt
         rw [Nat.add_mul] at this
         omega
       have hone' : ∀ (i : Nat) (x : AV),cs[i]? = some x → ∃ u,vx.cells.toList[i]? = some u ∧ u.oneCell' = true ∧ CellR E blk.inl x u:=by
         intro i x hi
         obtain ⟨v,hv,hxv⟩:=hl.get hi
         have:=cellR_of hxv (List.all_eq_true.1 hall x (List.mem_of_getElem? hi))
         exact ⟨v,hv,this.1,this.2⟩
       have hone : ∀ u ∈ vx.cells.toList,u.oneCell' = true:=by
         intro u hu
         obtain ⟨i,hi⟩:=List.mem_iff_getElem?.1 hu
         have hi' : i < cs.length:=by rw [← hl.length]; exact (List.getElem?_eq_some_iff.1 hi).1
         obtain ⟨v,hv,ho,_⟩:=hone' i _ (List.getElem?_eq_getElem hi')
         rw [hi] at hv; cases hv
         exact ho
       by_cases hpos : 0 < E.cs id
       · have hst:=run_storeCells_at P (E.φ id) (r * blk.size + o) blk.elem vx.cells.toList 0 C E.w (hC hpos) (by simpa using hfit) hone
         simp only [Nat.add_zero] at hst
         have hsp : (C.toList.take (r * blk.size + o) ++ vx.cells.toList ++ C.toList.drop (r * blk.size + o + vx.cells.toList.length)) = splice C.toList (r * blk.size + o) vx.cells.toList:=rfl
         rw [hsp] at hst
         have hfit' : r * blk.size + o + vx.cells.toList.length ≤ C.toList.length:=by simpa using hfit
         obtain ⟨g1,g2⟩:=hr.write (blk':={ blk with rows:=blk.rows.set r (splice row o cs) }) (C:=(splice C.toList (r * blk.size + o) vx.cells.toList).toArray) (w':=E.w.setRow (E.φ id) (splice C.toList (r * blk.size + o) vx.cells.toList).toArray)
           hb h2b hpos ⟨by simp,rfl,rfl,rfl⟩ (fun b hne=>setRow_other _ _ _ _ hne) (setRow_heap _ _ _ _ _ _ (hC hpos)) (by rw [List.size_toArray,splice_length hfit',Array.length_toList,hcs]) h2b (Nat.le_refl _) rfl rfl
           (by rw [List.size_toArray,splice_length hfit']; simpa using hlen)
           (fun r' row' h=>by
             simp only [List.getElem?_set] at h
             split at h
             · rename_i e; subst e
               cases h
               rw [splice_length h3]; exact hrlen
             · exact hrl r' row' h)
           (fun r' row' j y h hy=>by
             rw [List.getElem?_toArray,splice_get hfit']
             simp only [List.getElem?_set] at h
             split at h
             · rename_i e; subst e
               cases h
               rw [splice_get h3] at hy
               have hll:=hl.length
               by_cases q1 : j < o
               · rw [if_pos q1] at hy
                 rw [if_pos (by omega)]
                 obtain ⟨u,p1,p2,p3⟩:=hcell r row j y hrow hy
                 exact ⟨u,by simpa using p1,p2,p3⟩
               · rw [if_neg q1] at hy
                 rw [if_neg (by omega)]
                 by_cases q2 : j < o + cs.length
                 · rw [if_pos q2] at hy
                   rw [if_pos (by omega)]
                   obtain ⟨u,hu,ho,hyu⟩:=hone' _ _ hy
                   exact ⟨u,by rw [← hu]; congr 1; omega,ho,hyu⟩
                 · rw [if_neg q2] at hy
                   rw [if_neg (by omega)]
                   obtain ⟨u,p1,p2,p3⟩:=hcell r row j y hrow hy
                   exact ⟨u,by simpa using p1,p2,p3⟩
             · rename_i e
               have hj : j < blk.size:=by rw [← hrl r' row' h]; exact (List.getElem?_eq_some_iff.1 hy).1
               obtain ⟨u,p1,p2,p3⟩:=hcell r' row' j y h hy
               have hll:=hl.length
               rcases Nat.lt_or_gt_of_ne e with e | e
               · have : (r + 1) * blk.size ≤ r' * blk.size:=Nat.mul_le_mul_right _ e
                 rw [Nat.add_mul] at this
                 rw [if_neg (by omega),if_neg (by omega)]
                 exact ⟨u,by simpa using p1,p2,p3⟩
               · have:=mul_lt_block (r:=r') (r':=r) (s:=blk.size) (j:=j) e hj
                 rw [if_pos (by omega)]
                 exact ⟨u,by simpa using p1,p2,p3⟩)
         refine Snd.put_ret _ undef ?_ (by rw [hH]) g1 g2 trivial
         have hs' : (sizeOf t).run P E.w = .ok cs.length E.w:=run_sizeOf' hs E.w
         have hsz' : vx.cells.size = cs.length:=by have:=hl.length; simpa using this
         simp [Instr.storeAt,Instr.sureAddr,storeVar,hs',hsz',hst]
       · have hC0 : C.size = 0:=by omega
         exfalso
         have : 0 < blk.rows.length * blk.size:=Nat.mul_pos (by omega) hsz
         omega
     · exact Snd.fail
 · exact Snd.fail
theorem store_snd {P : Program} {E : Env} {H : NL ABlk} (hH : E.H = lk H) (hr : HR E) {t : TypeId} {a x : AV} {va vx : Value} (ha : Rep E a va) (hx : Rep E x vx) :
   Snd P E H (storeA P t a x) (do Instr.storeAt t va vx; pure undef):=by
 unfold storeA
 cases a with
 | ptr id g r o =>
   dsimp only
   cases hc : x.cellsOf with
   | none=>exact Snd.fail
   | some cs =>
     dsimp only
     split
     · rename_i hs
       have hl:=cellsOf_rep hc hx
       refine Snd.get' ?_
       split
       · refine frzL_snd hH hr hl fun E1 H1 cs' e1 e2 e3 e4 e5 e6 _ _=>?_
         exact putCells_snd e2 e3 (Rep.mono e4 _ _ ha) (RepIL.rep _ _ e5) (by rw [e6]; exact hs)
       · exact putCells_snd hH hr ha hl hs
     · exact Snd.fail
 | _=>exact Snd.fail
end
section
def rowsA (size : Nat) (x : AV) (k : List (List AV) → AP AV) : AP AV :=
 match x with
 | .nils=>k []
 | .list sz rows=>if sz = size then k rows else .fail
 | .sl id g off len => .get id fun b=>if b.gen = g ∧ (b.kind = 1 ∨ b.kind = 2) ∧ off + len ≤ b.rows.length ∧ b.size = size ∧ b.inl = true then k ((b.rows.drop off).take len) else .fail
 | .psl _ _ _ _ 0=>k []
 | _ => .fail
structure Src (E : Env) (size : Nat) (rows : List (List AV)) (v : Value) : Prop where
 val : ∃ oa cap,v = .slice oa rows.length cap
 cells : 0 < rows.length → ∃ (a : Addr) (cap : Nat) (news : List Value),v = .slice (some a) rows.length cap ∧ news.length = rows.length * size ∧ (∀ (j : Nat) (u : Value),news[j]? = some u → E.w.cell? (a.add j) = some u) ∧ (∀ u ∈ news,u.oneCell' = true) ∧
   ∀ (r : Nat) (row : List AV) (j : Nat) (x : AV),rows[r]? = some row → row[j]? = some x → ∃ u,news[r * size + j]? = some u ∧ RepI E.w E.imm x u
theorem news_of {E : Env} {rows : List (List AV)} {size : Nat} {a : Addr} (f : ∀ i,i < rows.length * size → ∃ u,E.w.cell? (a.add i) = some u ∧ u.oneCell' = true ∧ ∀ (r : Nat) (row : List AV) (j : Nat) (x : AV),r * size + j = i → rows[r]? = some row → row[j]? = some x → RepI E.w E.imm x u)
   (hl : ∀ (r : Nat) (row : List AV),rows[r]? = some row → row.length = size) :
   ∃ news : List Value,news.length = rows.length * size ∧ (∀ (j : Nat) (u : Value),news[j]? = some u → E.w.cell? (a.add j) = some u) ∧ (∀ u ∈ news,u.oneCell' = true) ∧
   ∀ (r : Nat) (row : List AV) (j : Nat) (x : AV),rows[r]? = some row → row[j]? = some x → ∃ u,news[r * size + j]? = some u ∧ RepI E.w E.imm x u:=by
 have hf : ∀ i, ∃ u : Value,i < rows.length * size → E.w.cell? (a.add i) = some u ∧ u.oneCell' = true ∧ ∀ (r : Nat) (row : List AV) (j : Nat) (x : AV),r * size + j = i → rows[r]? = some row → row[j]? = some x → RepI E.w E.imm x u:=by
   intro i
   by_cases hi : i < rows.length * size
   · obtain ⟨u,hu⟩:=f i hi; exact ⟨u,fun _=>hu⟩
   · exact ⟨undef,fun h=>absurd h hi⟩
 obtain ⟨g,hg⟩:=Classical.axiomOfChoice hf
 refine ⟨(List.range (rows.length * size)).map g,by simp,fun j u hu=>?_,fun u hu=>?_,fun r row j x hr hx=>?_⟩
 · simp only [List.getElem?_map,Option.map_eq_some_iff] at hu
   obtain ⟨i,hi,rfl⟩:=hu
   have hj : j < rows.length * size:=by have:=(List.getElem?_eq_some_iff.1 hi).1; simpa using this
   rw [List.getElem?_range hj] at hi
   cases hi
   exact (hg j hj).1
 · simp only [List.mem_map,List.mem_range] at hu
   obtain ⟨i,hi,rfl⟩:=hu
   exact (hg i hi).2.1
 · have hrl : r < rows.length:=(List.getElem?_eq_some_iff.1 hr).1
   have hj : j < size:=by rw [← hl r row hr]; exact (List.getElem?_eq_some_iff.1 hx).1
   have hlt : r * size + j < rows.length * size:=mul_lt_block hrl hj
   exact ⟨g (r * size + j),by rw [List.getElem?_map,List.getElem?_range hlt]; rfl,(hg _ hlt).2.2 r row j x rfl hr hx⟩
theorem rowsA_snd {P : Program} {E : Env} {H : NL ABlk} (hH : E.H = lk H) (hr : HR E) {size : Nat} {x : AV} {v : Value} (hx : Rep E x v) {k : List (List AV) → AP AV} {c : Sem Value}
   (h : ∀ rows,(∀ (r : Nat) (row : List AV),rows[r]? = some row → row.length = size) → Src E size rows v → Snd P E H (k rows) c) : Snd P E H (rowsA size x k) c:=by
 unfold rowsA
 cases x with
 | nils =>
   simp only [Rep] at hx; subst hx
   exact h [] (by simp) ⟨⟨none,0,rfl⟩,fun h=>by simp at h⟩
 | list sz rows =>
   dsimp only
   split
   · rename_i hs
     subst hs
     simp only [Rep,RepI] at hx
     rcases hx with ⟨rfl,rfl⟩ | ⟨a,cap,rfl,h1,h2,h3,h4⟩
     · exact h [] (by simp) ⟨⟨none,0,rfl⟩,fun h=>by simp at h⟩
     · have hl : ∀ (r : Nat) (row : List AV),rows[r]? = some row → row.length = sz:=fun r row hr=>(h4.get hr).1
       refine h rows hl ⟨⟨some a,cap,rfl⟩,fun hpos=>?_⟩
       have hne : rows ≠ []:=by intro e; subst e; simp at hpos
       obtain ⟨hsp,him⟩:=h3 hne
       obtain ⟨news,n1,n2,n3,n4⟩:=news_of (E:=E) (rows:=rows) (size:=sz) (a:=a) (fun i hi=>by
         have hs0 : 0 < sz:=by rcases Nat.eq_zero_or_pos sz with e | e; (subst e; simp at hi); exact e
         have hrlt : i / sz < rows.length:=Nat.div_lt_of_lt_mul (by rw [Nat.mul_comm]; exact hi)
         obtain ⟨row,hrow⟩ : ∃ row,rows[i / sz]? = some row:=⟨_,List.getElem?_eq_getElem hrlt⟩
         have hg:=h4.get hrow
         have hj : i % sz < row.length:=by rw [hg.1]; exact Nat.mod_lt _ hs0
         obtain ⟨u,hu,ho,hxu⟩:=hg.2.get (List.getElem?_eq_getElem hj)
         have hdm:=Nat.div_add_mod i sz
         have hdm' : i / sz * sz + i % sz = i:=by rw [Nat.mul_comm]; exact hdm
         refine ⟨u,by rw [add_add' a _ hsp]; rw [show a.off + i = a.off + i / sz * sz + i % sz from by omega]; exact hu,ho,fun r row' j x e hr hx=>?_⟩
         have hj' : j < sz:=by rw [← hl r row' hr]; exact (List.getElem?_eq_some_iff.1 hx).1
         have er : r = i / sz:=by rw [← e,Nat.add_comm,Nat.add_mul_div_right _ _ hs0,Nat.div_eq_of_lt hj',Nat.zero_add]
         have ej : j = i % sz:=by rw [← e,Nat.add_comm,Nat.add_mul_mod_self_right,Nat.mod_eq_of_lt hj']
         subst er; subst ej
         rw [hrow] at hr; cases hr
         rw [List.getElem?_eq_getElem hj] at hx; cases hx
         exact hxu) hl
       exact ⟨a,cap,news,rfl,n1,n2,n3,n4⟩
   · exact Snd.fail
 | sl id g off len =>
   simp only [Rep] at hx
   obtain ⟨blk,oa,len',cap,hb,hle,rfl,hg⟩:=hx
   refine Snd.get (by rw [← hH]; exact hb) ?_
   split
   · rename_i hc
     obtain ⟨hg1,hk,hoff,rfl,hinl⟩:=hc
     obtain ⟨_,rfl,h1,h2,h3⟩:=hg hg1
     obtain ⟨C,hC,hcs,hsz,hlen,hrl,hcell⟩:=hr.cells hb hk
     have hll : ((blk.rows.drop off).take len').length = len':=by rw [List.length_take,List.length_drop]; omega
     have hget : ∀ (r : Nat) (row : List AV),((blk.rows.drop off).take len')[r]? = some row → r < len' ∧ blk.rows[off + r]? = some row:=by
       intro r row h
       rw [List.getElem?_take] at h
       split at h
       · rw [List.getElem?_drop] at h; exact ⟨by assumption,h⟩
       · cases h
     have hl : ∀ (r : Nat) (row : List AV),((blk.rows.drop off).take len')[r]? = some row → row.length = blk.size:=fun r row h=>hrl _ row (hget r row h).2
     refine h _ hl ⟨⟨oa,cap,by rw [hll]⟩,fun hpos=>?_⟩
     rw [hll] at hpos
     obtain ⟨rfl,h4⟩:=h3 (by omega)
     have hcp : 0 < E.cs id:=by have : 0 < (off + cap) * blk.size:=Nat.mul_pos (by omega) hsz; omega
     obtain ⟨news,n1,n2,n3,n4⟩:=news_of (E:=E) (rows:=(blk.rows.drop off).take len') (size:=blk.size) (a:=⟨E.φ id,off * blk.size,none⟩) (fun i hi=>by
       rw [hll] at hi
       have hrlt : i / blk.size < len':=Nat.div_lt_of_lt_mul (by rw [Nat.mul_comm]; exact hi)
       obtain ⟨row,hrow⟩ : ∃ row,((blk.rows.drop off).take len')[i / blk.size]? = some row:=⟨_,List.getElem?_eq_getElem (by rw [hll]; exact hrlt)⟩
       have hj : i % blk.size < row.length:=by rw [hl _ row hrow]; exact Nat.mod_lt _ hsz
       obtain ⟨u,hu,ho,hxu⟩:=hcell _ row _ _ (hget _ row hrow).2 (List.getElem?_eq_getElem hj)
       have hdm' : i / blk.size * blk.size + i % blk.size = i:=by rw [Nat.mul_comm]; exact Nat.div_add_mod i blk.size
       refine ⟨u, ?_,ho,fun r row' j x e hr hx=>?_⟩
       · rw [add_mk,cell_of_heap (hC hcp), ← hu]
         congr 1
         rw [Nat.add_mul]; omega
       · have hj' : j < blk.size:=by rw [← hl r row' hr]; exact (List.getElem?_eq_some_iff.1 hx).1
         have er : r = i / blk.size:=by rw [← e,Nat.add_comm,Nat.add_mul_div_right _ _ hsz,Nat.div_eq_of_lt hj',Nat.zero_add]
         have ej : j = i % blk.size:=by rw [← e,Nat.add_comm,Nat.add_mul_mod_self_right,Nat.mod_eq_of_lt hj']
         subst er; subst ej
         rw [hrow] at hr; cases hr
         rw [List.getElem?_eq_getElem hj] at hx; cases hx
         rw [hinl] at hxu
         exact hxu) hl
     exact ⟨_,cap,news,by rw [hll],n1,n2,n3,n4⟩
   · exact Snd.fail
 | psl id g r o len =>
   cases len with
   | zero =>
     simp only [Rep] at hx
     obtain ⟨blk,a,cap,_,_,rfl,_⟩:=hx
     exact h [] (by simp) ⟨⟨_,cap,rfl⟩,fun h=>by simp at h⟩
   | succ k=>exact Snd.fail
 | _=>exact Snd.fail
theorem HR.regen {E : Env} (hr : HR E) {id : Nat} {blk : ABlk} (hb : E.H id = some blk) (hk : blk.kind = 2) :
   HR ⟨E.w,upd E.H id (some { blk with gen:=blk.gen + 1 }),E.φ,E.cs,E.F⟩ ∧ Step E ⟨E.w,upd E.H id (some { blk with gen:=blk.gen + 1 }),E.φ,E.cs,E.F⟩:=by
 have hst : Step E ⟨E.w,upd E.H id (some { blk with gen:=blk.gen + 1 }),E.φ,E.cs,E.F⟩:=by
   refine ⟨Nat.le_refl _,fun b _ _=>rfl,rfl,fun k b hbk=>?_,fun k b' hbk hkk hck=>?_,Kept.refl _⟩
   · by_cases e : id = k
     · subst e
       rw [hb] at hbk; cases hbk
       exact ⟨{ blk with gen:=blk.gen + 1 },by simp only [upd_same],Nat.le_succ _,fun h=>absurd h (by simp)⟩
     · exact ⟨b,by simp [upd_other _ _ _ e,hbk],Nat.le_refl _,fun _ _=>⟨.inl rfl,rfl,rfl,rfl,rfl⟩⟩
   · left
     by_cases e : id = k
     · subst e; exact ⟨id,blk,hb,by omega,hck,rfl, .inl rfl⟩
     · exact ⟨k,b',by simpa [upd_other _ _ _ e] using hbk,hkk,hck,rfl, .inl rfl⟩
 have hex : ∀ k b,upd E.H id (some { blk with gen:=blk.gen + 1 }) k = some b → ∃ b0,E.H k = some b0 ∧ b.kind = b0.kind:=by
   intro k b h
   by_cases e : id = k
   · subst e; simp only [upd_same,Option.some.injEq] at h; subst h; exact ⟨blk,hb,rfl⟩
   · exact ⟨b,by simpa [upd_other _ _ _ e] using h,rfl⟩
 refine ⟨⟨fun k b hbk=>?_,fun i j bi bj hi hj ki kj ci cj hne=>?_,fun k b hbk hkk hck=>?_,hr.fb⟩,hst⟩
 · by_cases e : id = k
   · subst e
     simp only [upd_same,Option.some.injEq] at hbk
     subst hbk
     have:=BlkOK.mono hst rfl rfl (fun _ _=>rfl) (hr.blk id blk hb)
     obtain ⟨C,c1,c2,c3,c4,c5,c6⟩:=hr.cells hb (.inr hk)
     exact BlkOK.mk_cells (.inr hk) ⟨C,c1,c2,c3,c4,c5,fun r row j x h1 h2=>by
       obtain ⟨u,d1,d2,d3⟩:=c6 r row j x h1 h2
       exact ⟨u,d1,d2,d3.mono hst⟩⟩
   · simp only [upd_other _ _ _ e] at hbk
     exact BlkOK.mono hst rfl rfl (fun _ _=>rfl) (hr.blk k b hbk)
 · obtain ⟨b1,h1,k1⟩:=hex i bi hi
   obtain ⟨b2,h2,k2⟩:=hex j bj hj
   exact hr.inj i j b1 b2 h1 h2 (by omega) (by omega) ci cj hne
 · obtain ⟨b1,h1,k1⟩:=hex k b hbk
   exact hr.nf k b1 h1 (by omega) hck
def firstRows {α : Type} (n : Nat) (l : List α) : List α := if n = l.length then l else l.take n
theorem firstRows_eq {α : Type} (n : Nat) (l : List α) : firstRows n l = l.take n := by
 unfold firstRows
 split
 · rename_i h; rw [h,List.take_length]
 · rfl
@[simp] theorem firstRows_all {α : Type} (l : List α) : firstRows l.length l = l := by simp [firstRows]
@[simp] theorem firstRows_nil {α : Type} (n : Nat) : firstRows n ([] : List α) = [] := by simp [firstRows]
@[simp] theorem firstRows_zero {α : Type} (l : List α) : firstRows 0 l = [] := by rw [firstRows_eq]; rfl
@[simp] theorem firstRows_map {α β : Type} (f : α → β) (l : List α) : firstRows l.length (l.map f) = l.map f := by simp [firstRows]
def appendA (P : Program) (dst : Nat) (t t' : TypeId) (s x : AV) : AP AV :=
 match P.underlying t with
 | some (.slice elem)=>match P.info? elem with
   | some i =>
     if t = t' ∧ 0 < i.size ∧ (i.zero.map fun z=>z.cells.size) = some i.size then
       rowsA i.size x fun news =>
         match s with
         | .nils=>if news.length * i.bytes ≤ 140737488355328 ∧ news.length ≤ maxLen then
             .get (newId dst) fun old => .put (newId dst) { gen:=old.gen + 1,kind:=2,elem,size:=i.size,inl:=true,rows:=news } (.ret (.sl (newId dst) (old.gen + 1) 0 news.length))
           else .fail
         | .sl id g 0 len => .get id fun b =>
           if b.gen = g ∧ b.kind = 2 ∧ b.elem = elem ∧ b.size = i.size ∧ b.inl = true ∧ len ≤ b.rows.length ∧ (len + news.length) * i.bytes ≤ 140737488355328 ∧ len + news.length ≤ maxLen then
             .put id { gen:=b.gen + 1,kind:=2,elem,size:=i.size,inl:=true,rows:=firstRows len b.rows ++ news } (.ret (.sl id (b.gen + 1) 0 (len + news.length)))
           else .fail
         | _ => .fail
     else .fail
   | none => .fail
 | _ => .fail
theorem run_append_zero {P : Program} {w : World} {t ty e : TypeId} {i : TypeInfo} (ht : P.underlying t = some (.slice e)) (hi : P.info? e = some i) {oa ob : Option Addr} {n cap c : Nat} (hn : n ≤ cap) :
   (Builtin.append_ #[t,t] ty #[.slice oa n cap, .slice ob 0 c]).run P w = .ok (.slice oa n cap) w:=by
 cases oa <;> cases ob <;> simp [Builtin.append_,run_underlying' ht,sizeOf,typeInfo,hi,Builtin.lenOf,hn,Builtin.firstCells,loadCells,loadCellsFrom,storeCells]
theorem grown_env {E : Env} (hr : HR E) {id g : Nat} {elem : TypeId} {size : Nat} {rows : List (List AV)} {olds zs : List Value} {w' : World} {need cap : Nat}
   (hw : w' = E.w.drew.alloc (.cells (olds ++ zs).toArray elem)) (h0 : 0 < size) (hg : ∀ old,E.H id = some old → old.gen < g) (hneed : rows.length = need) (hlo : olds.length = need * size) (hz : zs.length = (cap - need) * size) (hcap : need ≤ cap) (hcm : cap ≤ maxLen)
   (hl : ∀ (r : Nat) (row : List AV),rows[r]? = some row → row.length = size)
   (hc : ∀ (r : Nat) (row : List AV) (j : Nat) (x : AV),rows[r]? = some row → row[j]? = some x → ∃ u,olds[r * size + j]? = some u ∧ u.oneCell' = true ∧ RepI E.w E.imm x u) :
   ∃ E',E'.w = w' ∧ E'.H = upd E.H id (some { gen:=g,kind:=2,elem,size,inl:=true,rows }) ∧ HR E' ∧ Step E E' ∧ Rep E' (.sl id g 0 need) (.slice (some ⟨E.w.heap.size,0,none⟩) need cap):=by
 have hsz : (olds ++ zs).toArray.size = cap * size:=by
   rw [List.size_toArray,List.length_append,hlo,hz, ← Nat.add_mul]; congr 1; omega
 obtain ⟨h1,h2⟩:=hr.new (id:=id) (blk:={ gen:=g,kind:=2,elem,size,inl:=true,rows }) (C:=(olds ++ zs).toArray) (w':=w') (by subst hw; exact ⟨by simp,rfl,rfl,rfl⟩) (fun b hb=>by subst hw; exact heap_alloc_old E.w.drew _ b hb) (by subst hw; exact heap_alloc_new E.w.drew _) rfl hg h0
   (by rw [hsz]; exact Nat.mul_le_mul_right _ (by simp only; omega)) hl
   (fun r row j x hrw hx=>by
     obtain ⟨u,hu,ho,hxu⟩:=hc r row j x hrw hx
     refine ⟨u, ?_,ho,hxu⟩
     rw [List.getElem?_toArray,List.getElem?_append_left (List.getElem?_eq_some_iff.1 hu).1]
     exact hu)
 refine ⟨_,rfl,rfl,h1,h2, ?_⟩
 simp only [Rep,upd_same]
 exact ⟨_,_,_,_,rfl,Nat.le_refl _,rfl,fun _=>⟨.inr rfl,rfl,hcap,hcm,fun _=>⟨by simp,by simp only [hsz]; simp⟩⟩⟩
theorem HR.shrink {E : Env} (hr : HR E) {id : Nat} {blk : ABlk} (hb : E.H id = some blk) (hk : blk.kind = 2) (n : Nat) :
   HR ⟨E.w,upd E.H id (some { blk with gen:=blk.gen + 1,rows:=blk.rows.take n }),E.φ,E.cs,E.F⟩ ∧ Step E ⟨E.w,upd E.H id (some { blk with gen:=blk.gen + 1,rows:=blk.rows.take n }),E.φ,E.cs,E.F⟩:=by
 obtain ⟨C,hC,hcs,hsz,hlen,hrl,hcell⟩:=hr.cells hb (.inr hk)
 rcases Nat.eq_zero_or_pos (E.cs id) with h0 | hcp
 · have hrows : blk.rows = []:=by
     refine List.eq_nil_of_length_eq_zero ?_
     rcases Nat.eq_zero_or_pos blk.rows.length with q | q
     · exact q
     · have:=Nat.mul_pos q hsz; omega
   have he : ({ blk with gen:=blk.gen + 1,rows:=blk.rows.take n } : ABlk) = { blk with gen:=blk.gen + 1 }:=by rw [hrows]; simp
   rw [he]
   exact hr.regen hb hk
 · exact hr.write (blk':={ blk with gen:=blk.gen + 1,rows:=blk.rows.take n }) (C:=C) (w':=E.w) hb hk hcp ⟨rfl,rfl,rfl,rfl⟩ (fun _ _=>rfl) (hC hcp) hcs hk (Nat.le_succ _) rfl rfl
     (by
       refine Nat.le_trans (Nat.mul_le_mul_right _ ?_) hlen
       show (blk.rows.take n).length ≤ blk.rows.length
       rw [List.length_take]; omega)
     (fun r row h=>by
       rw [List.getElem?_take] at h
       split at h
       · exact hrl r row h
       · cases h)
     (fun r row j x h hx=>by
       rw [List.getElem?_take] at h
       split at h
       · exact hcell r row j x h hx
       · cases h)
theorem append_snd {P : Program} {E : Env} {H : NL ABlk} (hH : E.H = lk H) (hr : HR E) {dst : Nat} {t t' ty : TypeId} {s x : AV} {vs vx : Value} (hs : Rep E s vs) (hx : Rep E x vx) :
   Snd P E H (appendA P dst t t' s x) (Builtin.append_ #[t,t'] ty #[vs,vx]):=by
 unfold appendA
 split
 · rename_i elem hu
   split
   · rename_i i hi
     split
     · rename_i hc
       obtain ⟨rfl,hsz,hz⟩:=hc
       obtain ⟨z,hz1,hz2⟩ : ∃ z,i.zero = some z ∧ z.cells.size = i.size:=by
         cases hzz : i.zero with
         | none=>simp [hzz] at hz
         | some z=>simp [hzz] at hz; exact ⟨z,rfl,hz⟩
       refine rowsA_snd hH hr hx fun news hl src=>?_
       have zlen : ∀ k,(Builtin.zeroCells z.cells k).toList.length = k * i.size:=fun k=>by rw [Array.length_toList,size_zeroCells,hz2]
       split
       · -- onto nil
         simp only [Rep] at hs
         subst hs
         split
         · rename_i hb
           obtain ⟨hb1,hb2⟩:=hb
           refine Snd.get' ?_
           generalize hgen : ((lk H (newId dst)).getD {}).gen + 1 = g
           have hg : ∀ old,E.H (newId dst) = some old → old.gen < g:=fun old ho=>by rw [hH] at ho; simp [ho] at hgen; omega
           rcases Nat.eq_zero_or_pos news.length with hm | hm
           · obtain ⟨oa,cap,hv⟩:=src.val
             rw [hm] at hv
             have hn : news = []:=List.eq_nil_of_length_eq_zero hm
             subst hn
             obtain ⟨h1,h2⟩:=hr.phantom (id:=newId dst) (blk:={ gen:=g,kind:=2,elem,size:=i.size,inl:=true,rows:=[] }) rfl hg hsz rfl
             refine Snd.put_ret _ (.slice none 0 0) ?_ (by rw [hH]) h1 h2 ?_
             · rw [hv]; exact run_append_zero hu hi (Nat.le_refl _)
             · simp only [Rep,upd_same]
               exact ⟨_,none,0,0,rfl,Nat.le_refl _,rfl,fun _=>⟨.inr rfl,rfl,Nat.le_refl _,Nat.zero_le _,fun h=>absurd h (by omega)⟩⟩
           · obtain ⟨a,cap,nv,hv,n1,n2,n3,n4⟩:=src.cells hm
             have hrun:=run_append_nil (P:=P) E.w t ty elem i z hu hi hz1 a news.length cap nv n1 n2 hm (by simp only [maxLen] at hb2; omega) (by omega)
             have hge:=grownCap_ge E.w news.length 0 elem
             have hcm:=grownCap_le_maxLen E.w news.length 0 elem hb2
             obtain ⟨E',e1,e2,e3,e4,e5⟩:=grown_env hr (id:=newId dst) (g:=g) (elem:=elem) (size:=i.size) (rows:=news) (olds:=nv) (zs:=(Builtin.zeroCells z.cells (grownCap E.w news.length 0 elem - news.length)).toList)
               (w':=E.w.drew.alloc (.cells (nv.toArray ++ Builtin.zeroCells z.cells (grownCap E.w news.length 0 elem - news.length)) elem)) (need:=news.length) (cap:=grownCap E.w news.length 0 elem)
               (by congr 2; apply Array.ext'; simp) hsz hg rfl n1 (zlen _) hge hcm hl (fun r row j x h1 h2=>by
                 obtain ⟨u,hu',hxu⟩:=n4 r row j x h1 h2
                 exact ⟨u,hu',n3 u (List.mem_of_getElem? hu'),hxu⟩)
             refine Snd.put_ret E' _ ?_ (by rw [e2,hH]) e3 e4 e5
             rw [hv,e1]; exact hrun
         · exact Snd.fail
       · -- onto a row of our own
         rename_i id g len
         simp only [Rep] at hs
         obtain ⟨blk,oa,len',cap,hb,hle,rfl,hg⟩:=hs
         refine Snd.get (by rw [← hH]; exact hb) ?_
         split
         · rename_i hc
           obtain ⟨hg1,hk,rfl,hs1,hinl,hln,hb1,hb2⟩:=hc
           obtain ⟨_,rfl,h1,h2,h3⟩:=hg hg1
           obtain ⟨C,hC,hcs,hsz',hlen,hrl,hcell⟩:=hr.cells hb (.inr hk)
           rw [firstRows_eq]
           have hrl' : ∀ (r : Nat) (row : List AV),(blk.rows.take len')[r]? = some row → blk.rows[r]? = some row:=fun r row h=>by
             rw [List.getElem?_take] at h
             split at h
             · exact h
             · cases h
           have hln' : (blk.rows.take len').length = len':=by rw [List.length_take]; omega
           have hall : ∀ (r : Nat) (row : List AV),(blk.rows.take len' ++ news)[r]? = some row → row.length = i.size:=fun r row h=>by
             rw [List.getElem?_append] at h
             split at h
             · rw [← hs1]; exact hrl r row (hrl' r row h)
             · exact hl _ row h
           rcases Nat.eq_zero_or_pos news.length with hm | hm
           · obtain ⟨oa',cap',hv⟩:=src.val
             rw [hm] at hv
             have hn : news = []:=List.eq_nil_of_length_eq_zero hm
             subst hn
             obtain ⟨q1,q2⟩:=hr.shrink hb hk len'
             have hblk : ({ gen:=blk.gen + 1,kind:=2,elem:=blk.elem,size:=i.size,inl:=true,rows:=blk.rows.take len' ++ [] } : ABlk) = { blk with gen:=blk.gen + 1,rows:=blk.rows.take len' }:=by
               rw [List.append_nil, ← hs1, ← hk, ← hinl]
             rw [hblk]
             refine Snd.put_ret _ (.slice oa len' cap) ?_ (by rw [hH]) q1 q2 ?_
             · rw [hv]; exact run_append_zero hu hi h1
             · simp only [Rep,upd_same]
               refine ⟨_,oa,len',cap,rfl,Nat.le_refl _,rfl,fun _=>⟨.inr hk,by simp,h1,h2,fun hp=>?_⟩⟩
               simpa using h3 hp
           · obtain ⟨a,c,nv,hv,n1,n2,n3,n4⟩:=src.cells hm
             have n4' : ∀ (r : Nat) (row : List AV) (j : Nat) (x : AV),news[r]? = some row → row[j]? = some x → ∃ u,nv[r * i.size + j]? = some u ∧ u.oneCell' = true ∧ RepI E.w E.imm x u:=fun r row j x h1 h2=>by
               obtain ⟨u,hu',hxu⟩:=n4 r row j x h1 h2
               exact ⟨u,hu',n3 u (List.mem_of_getElem? hu'),hxu⟩
             -- the cells of the old row
             have holds : ∃ ov : List Value,ov.length = len' * i.size ∧ (0 < cap → ∀ (j : Nat) (u : Value),ov[j]? = some u → E.w.cell? ((⟨E.φ id,0,none⟩ : Addr).add j) = some u) ∧
                 ∀ (r : Nat) (row : List AV) (j : Nat) (x : AV),(blk.rows.take len')[r]? = some row → row[j]? = some x → ∃ u,ov[r * i.size + j]? = some u ∧ u.oneCell' = true ∧ RepI E.w E.imm x u:=by
               refine ⟨C.toList.take (len' * i.size), ?_,fun hp j u hu'=>?_,fun r row j x h1' h2=>?_⟩
               · rw [List.length_take,Array.length_toList, ← hs1]
                 have:=Nat.mul_le_mul_right blk.size hln
                 omega
               · have hcp : 0 < E.cs id:=by have:=(h3 hp).2; have : 0 < (0 + cap) * blk.size:=Nat.mul_pos (by omega) hsz'; omega
                 rw [add_mk,cell_of_heap (hC hcp),Nat.zero_add]
                 rw [List.getElem?_take] at hu'
                 split at hu'
                 · simpa using hu'
                 · cases hu'
               · have h1:=hrl' r row h1'
                 obtain ⟨u,c1,c2,c3⟩:=hcell r row j x h1 h2
                 rw [hinl] at c3
                 have hrlt : r < len':=by rw [← hln']; exact (List.getElem?_eq_some_iff.1 h1').1
                 have hj : j < i.size:=by rw [← hs1, ← hrl r row h1]; exact (List.getElem?_eq_some_iff.1 h2).1
                 refine ⟨u, ?_,c2,c3⟩
                 rw [List.getElem?_take,if_pos (mul_lt_block hrlt hj), ← hs1]
                 simpa using c1
             obtain ⟨ov,o1,o2,o3⟩:=holds
             have both : ∀ (r : Nat) (row : List AV) (j : Nat) (x : AV),(blk.rows.take len' ++ news)[r]? = some row → row[j]? = some x → ∃ u,(ov ++ nv)[r * i.size + j]? = some u ∧ u.oneCell' = true ∧ RepI E.w E.imm x u:=by
               intro r row j x h1 h2
               rw [List.getElem?_append] at h1
               split at h1
               · obtain ⟨u,p1,p2,p3⟩:=o3 r row j x h1 h2
                 exact ⟨u,by rw [List.getElem?_append_left (List.getElem?_eq_some_iff.1 p1).1]; exact p1,p2,p3⟩
               · rename_i hge
                 obtain ⟨u,p1,p2,p3⟩:=n4' _ row j x h1 h2
                 refine ⟨u, ?_,p2,p3⟩
                 rw [hln'] at p1 hge
                 have hr2 : r * i.size = (r - len') * i.size + len' * i.size:=by
                   rw [← Nat.add_mul]; congr 1; omega
                 rw [List.getElem?_append_right (by rw [o1,hr2]; omega),o1, ← p1]
                 congr 1; omega
             by_cases hroom : len' + news.length ≤ cap
             · obtain ⟨rfl,h4⟩:=h3 (by omega)
               have hcp : 0 < E.cs id:=by have : 0 < (0 + cap) * blk.size:=Nat.mul_pos (by omega) hsz'; omega
               have hfit : len' * i.size + nv.length ≤ C.size:=by
                 rw [n1, ← Nat.add_mul,hcs]
                 refine Nat.le_trans (Nat.mul_le_mul_right _ hroom) ?_
                 rw [← hs1]; simpa using h4
               have hrun:=run_append_room (P:=P) E.w t ty blk.elem i hu hi (E.φ id) len' cap C (hC hcp) a news.length c nv n1 n2 n3 hroom hfit
               have hsp : (C.toList.take (len' * i.size) ++ nv ++ C.toList.drop (len' * i.size + nv.length)) = splice C.toList (len' * i.size) nv:=rfl
               rw [hsp] at hrun
               have hfit' : len' * i.size + nv.length ≤ C.toList.length:=by simpa using hfit
               obtain ⟨q1,q2⟩:=hr.write (blk':={ gen:=blk.gen + 1,kind:=2,elem:=blk.elem,size:=i.size,inl:=true,rows:=blk.rows.take len' ++ news }) (C:=(splice C.toList (len' * i.size) nv).toArray) (w':=E.w.setRow (E.φ id) (splice C.toList (len' * i.size) nv).toArray)
                 hb hk hcp ⟨by simp,rfl,rfl,rfl⟩ (fun b hne=>setRow_other _ _ _ _ hne) (setRow_heap _ _ _ _ _ _ (hC hcp)) (by rw [List.size_toArray,splice_length hfit',Array.length_toList,hcs]) rfl (by simp) hs1.symm rfl
                 (by rw [List.size_toArray,splice_length hfit',Array.length_toList]
                     show (blk.rows.take len' ++ news).length * blk.size ≤ C.size
                     rw [List.length_append,hln',hcs]
                     refine Nat.le_trans (Nat.mul_le_mul_right _ hroom) ?_
                     simpa using h4)
                 (fun r row h=>by rw [hs1]; exact hall r row h)
                 (fun r row j x h1 h2=>by
                   rw [List.getElem?_toArray,splice_get hfit',hs1]
                   rw [List.getElem?_append] at h1
                   split at h1
                   · rename_i hlt
                     rw [hln'] at hlt
                     obtain ⟨u,p1,p2,p3⟩:=hcell r row j x (hrl' r row h1) h2
                     rw [hinl] at p3
                     have hj : j < i.size:=by rw [← hs1, ← hrl r row (hrl' r row h1)]; exact (List.getElem?_eq_some_iff.1 h2).1
                     rw [if_pos (mul_lt_block (by omega) hj)]
                     exact ⟨u,by rw [← hs1]; simpa using p1,p2,p3⟩
                   · rename_i hge
                     obtain ⟨u,p1,p2,p3⟩:=n4' _ row j x h1 h2
                     rw [hln'] at p1 hge
                     have hr2 : r * i.size = (r - len') * i.size + len' * i.size:=by
                       rw [← Nat.add_mul]; congr 1; omega
                     have hlt2 : (r - len') * i.size + j < nv.length:=(List.getElem?_eq_some_iff.1 p1).1
                     rw [if_neg (by omega),if_pos (by omega)]
                     exact ⟨u,by rw [← p1]; congr 1; omega,p2,p3⟩)
               refine Snd.put_ret _ (.slice (some ⟨E.φ id,0 * blk.size,none⟩) (len' + news.length) cap) ?_ (by rw [hH]) q1 q2 ?_
               · rw [hv]; simpa using hrun
               · simp only [Rep,upd_same]
                 exact ⟨_,_,_,cap,rfl,Nat.le_refl _,rfl,fun _=>⟨.inr rfl,rfl,hroom,h2,fun _=>⟨by simp,by rw [← hs1]; simpa using h4⟩⟩⟩
             · -- a new row
               have hgg : ∀ old,E.H id = some old → old.gen < blk.gen + 1:=fun old ho=>by rw [hb] at ho; cases ho; omega
               have hge:=grownCap_ge E.w (len' + news.length) cap blk.elem
               have hcm:=grownCap_le_maxLen E.w (len' + news.length) cap blk.elem hb2
               rcases Nat.eq_zero_or_pos cap with hc0 | hc0
               · have hl0 : len' = 0:=by omega
                 subst hc0; subst hl0
                 have ho0 : ov = []:=List.eq_nil_of_length_eq_zero (by simpa using o1)
                 subst ho0
                 obtain ⟨E',e1,e2,e3,e4,e5⟩:=grown_env hr (id:=id) (g:=blk.gen + 1) (elem:=blk.elem) (size:=i.size) (rows:=blk.rows.take 0 ++ news) (olds:=[] ++ nv) (zs:=(Builtin.zeroCells z.cells (grownCap E.w (0 + news.length) 0 blk.elem - (0 + news.length))).toList)
                   (w':=E.w.drew.alloc (.cells (nv.toArray ++ Builtin.zeroCells z.cells (grownCap E.w (0 + news.length) 0 blk.elem - (0 + news.length))) blk.elem)) (need:=0 + news.length) (cap:=grownCap E.w (0 + news.length) 0 blk.elem)
                   (by congr 2; apply Array.ext'; simp) hsz hgg (by rw [List.length_append,hln']) (by simp [n1]) (zlen _) hge hcm hall both
                 refine Snd.put_ret E' _ ?_ (by rw [e2,hH]) e3 e4 e5
                 rw [hv,e1]
                 cases oa with
                 | none =>
                   have hrun:=run_append_nil (P:=P) E.w t ty blk.elem i z hu hi hz1 a news.length c nv n1 n2 hm (by simp only [maxLen] at hb2; omega) (by simp only [Nat.zero_add] at hb1; omega)
                   simpa using hrun
                 | some ad =>
                   have hrun:=run_append_grow (P:=P) E.w t ty blk.elem i z hu hi hz1 ad 0 0 [] (by simp) (by simp) a news.length c nv n1 n2 (by omega) (by simp only [maxLen] at hb2; omega) (growslice_fits (by omega) hb1)
                   simpa using hrun
               · obtain ⟨rfl,h4⟩:=h3 hc0
                 obtain ⟨E',e1,e2,e3,e4,e5⟩:=grown_env hr (id:=id) (g:=blk.gen + 1) (elem:=blk.elem) (size:=i.size) (rows:=blk.rows.take len' ++ news) (olds:=ov ++ nv) (zs:=(Builtin.zeroCells z.cells (grownCap E.w (len' + news.length) cap blk.elem - (len' + news.length))).toList)
                   (w':=E.w.drew.alloc (.cells (ov.toArray ++ nv.toArray ++ Builtin.zeroCells z.cells (grownCap E.w (len' + news.length) cap blk.elem - (len' + news.length))) blk.elem)) (need:=len' + news.length) (cap:=grownCap E.w (len' + news.length) cap blk.elem)
                   (by congr 2; apply Array.ext'; simp) hsz hgg (by rw [List.length_append,hln']) (by rw [List.length_append,o1,n1,Nat.add_mul]) (zlen _) hge hcm hall both
                 refine Snd.put_ret E' _ ?_ (by rw [e2,hH]) e3 e4 e5
                 rw [hv,e1]
                 have hrun:=run_append_grow (P:=P) E.w t ty blk.elem i z hu hi hz1 ⟨E.φ id,0,none⟩ len' cap ov o1 (o2 hc0) a news.length c nv n1 n2 (by omega) (by simp only [maxLen] at hb2; omega) (growslice_fits (by omega) hb1)
                 simpa using hrun
         · exact Snd.fail
       · exact Snd.fail
     · exact Snd.fail
   · exact Snd.fail
 · exact Snd.fail
end
end Go.Abs
namespace Go.Abs
open Go
set_option linter.unusedVariables false
set_option linter.unusedSimpArgs false
section
def fillA (place : Nat → Option (Nat × Nat)) : List AV → List (Nat × AV) → Option (List AV)
 | cells,[]=>some cells
 | cells,(i,x) :: rest=>match place i with
   | some (off,size)=>match x.cellsOf with
     | some cs=>if cs.length = size ∧ off + cs.length ≤ cells.length then fillA place (splice cells off cs) rest else none
     | none=>none
   | none=>none
theorem RepL.splice {E : Env} {xs ys : List AV} {vs us : List Value} {p : Nat} (h : RepL E xs vs) (h' : RepL E ys us) (hp : p + ys.length ≤ xs.length) : RepL E (splice xs p ys) (splice vs p us) := by
 have l1:=h.length
 have l2:=h'.length
 refine RepL.of_get ?_ fun i x hx=>?_
 · rw [splice_length (by omega),splice_length hp,l1]
 · rw [splice_get hp] at hx
   rw [splice_get (by omega),l2]
   split
   · rename_i q; rw [if_pos q] at hx; exact h.get hx
   · rename_i q
     rw [if_neg q] at hx
     split
     · rename_i q2; rw [if_pos q2] at hx; exact h'.get hx
     · rename_i q2; rw [if_neg q2] at hx; exact h.get hx
theorem foldl_put (cs : List Value) (off : Nat) : ∀ (k : Nat) (cells : Array Value),off + k + cs.length ≤ cells.size →
   ((cs.zipIdx k).foldl (fun (a : Array Value) (p : Value × Nat)=>a.setIfInBounds (off + p.2) p.1) cells).toList = splice cells.toList (off + k) cs:=by
 induction cs with
 | nil=>intro k cells h; simp [splice]
 | cons v r ih =>
   intro k cells h
   simp only [List.length_cons] at h
   rw [List.zipIdx_cons,List.foldl_cons,ih (k + 1) _ (by rw [Array.size_setIfInBounds]; omega)]
   apply List.ext_getElem?
   intro i
   have hs : (cells.setIfInBounds (off + k) v).toList = cells.toList.set (off + k) v:=by simp
   rw [hs,splice_get (by simp; omega),splice_get (by simp only [List.length_cons,Array.length_toList]; omega)]
   by_cases h1 : i < off + k
   · rw [if_pos (by omega),if_pos h1,List.getElem?_set_ne (by omega)]
   · by_cases h2 : i = off + k
     · subst h2
       rw [if_pos (by omega),if_neg (by omega),if_pos (by simp only [List.length_cons]; omega),List.getElem?_set_self (by rw [Array.length_toList]; omega)]
       simp
     · rw [if_neg (by omega),if_neg h1]
       by_cases h3 : i < off + (k + 1) + r.length
       · rw [if_pos h3,if_pos (by simp only [List.length_cons]; omega),show i - (off + k) = (i - (off + (k + 1))) + 1 from by omega,List.getElem?_cons_succ]
       · rw [if_neg h3,if_neg (by simp only [List.length_cons]; omega),List.getElem?_set_ne (by omega)]
theorem fill_rep {E : Env} {place : Nat → Option (Nat × Nat)} : ∀ {parts : List (Nat × AV)} {vparts : List (Nat × Value)} {cells out : List AV} {vcells : Array Value},
   parts.length = vparts.length → (∀ (k i : Nat) (x : AV),parts[k]? = some (i,x) → ∃ v,vparts[k]? = some (i,v) ∧ Rep E x v) → RepL E cells vcells.toList → fillA place cells parts = some out →
   ∃ vout,Instr.fill place vcells vparts = some vout ∧ RepL E out vout.toList
 | [],[],cells,out,vcells,_,_,h,ho=>by
   simp only [fillA,Option.some.injEq] at ho; subst ho
   exact ⟨vcells,rfl,h⟩
 | [],_ :: _,_,_,_,hl,_,_,_=>by simp at hl
 | _ :: _,[],_,_,_,hl,_,_,_=>by simp at hl
 | (i, x) :: rest, (j, v) :: vrest, cells, out, vcells, hl, hp, h, ho => by
   obtain ⟨v',hv',hx⟩:=hp 0 i x (by simp)
   simp only [List.getElem?_cons_zero,Option.some.injEq,Prod.mk.injEq] at hv'
   obtain ⟨rfl,rfl⟩:=hv'
   simp only [fillA] at ho
   cases hpl : place j with
   | none=>simp [hpl] at ho
   | some os =>
     obtain ⟨off,size⟩:=os
     cases hc : x.cellsOf with
     | none=>simp [hpl,hc] at ho
     | some cs =>
       simp only [hpl,hc] at ho
       split at ho
       · rename_i hcond
         have hxl:=cellsOf_rep hc hx
         have hsz : v.cells.size = cs.length:=by have:=hxl.length; simpa using this
         have hvl : vcells.size = cells.length:=by have:=h.length; simpa using this
         have hsp:=h.splice hxl hcond.2
         have hfold:=foldl_put v.cells.toList off 0 vcells (by simp [hsz,hvl]; omega)
         have harr : v.cells.zipIdx.foldl (fun (a : Array Value) (p : Value × Nat)=>a.setIfInBounds (off + p.2) p.1) vcells = (v.cells.toList.zipIdx 0).foldl (fun (a : Array Value) (p : Value × Nat)=>a.setIfInBounds (off + p.2) p.1) vcells:=by
           rw [← Array.foldl_toList,Array.toList_zipIdx]
         obtain ⟨vout,h1,h2⟩:=fill_rep (parts:=rest) (vparts:=vrest) (out:=out) (vcells:=(v.cells.toList.zipIdx 0).foldl (fun (a : Array Value) (p : Value × Nat)=>a.setIfInBounds (off + p.2) p.1) vcells) (by simpa using hl)
           (fun k i' x' hk=>by simpa using hp (k + 1) i' x' (by simpa using hk)) (by rw [hfold]; simpa using hsp) ho
         refine ⟨vout, ?_,h2⟩
         have e1 : v.cells.size = size:=by omega
         have e2 : ¬ (v.cells.size ≠ size || decide (off + v.cells.size > vcells.size)) = true:=by simp [e1]; omega
         simp only [Instr.fill,hpl]
         rw [if_neg e2]
         simp only [harr]
         exact h1
       · cases ho
theorem run_mapM_list {P : Program} {w : World} {α β : Type} (g : α → Sem β) (f : α → β) : ∀ l : List α,(∀ x ∈ l,(g x).run P w = .ok (f x) w) → (l.mapM g).run P w = .ok (l.map f) w
 | [],_=>by simp
 | x :: r,h=>by
   rw [List.mapM_cons]
   simp only [Sem.run_bind,h x (by simp),Result.andThen_ok,run_mapM_list g f r (fun y hy=>h y (by simp [hy])),Sem.run_pure,List.map_cons]
theorem run_mapM_array {P : Program} {w : World} {α β : Type} (g : α → Sem β) (f : α → β) (l : Array α) (h : ∀ x ∈ l.toList,(g x).run P w = .ok (f x) w) : (l.mapM g).run P w = .ok (l.map f) w := by
 have hl:=run_mapM_list (P:=P) (w:=w) g f l.toList h
 rw [Array.mapM_eq_mapM_toList,Sem.run_map,hl,Result.andThen_ok]
 congr 1
 apply Array.ext'
 simp
def placesA (P : Program) (fields : Array Field) : Nat → Option (Nat × Nat) := fun i => match fields[i]? with
 | some f=>(szOf P f.type).map fun s=>(f.offset,s)
 | none=>none
def buildA (P : Program) (t : TypeId) (parts : List (Nat × AV)) : AP AV :=
 match zeroA P t,P.underlying t with
 | some (.agg z),some (.struct fields) =>
   if fields.toList.all (fun f=>(szOf P f.type).isSome) then
     match fillA (placesA P fields) z parts with
     | some cells => .ret (.agg cells)
     | none => .fail
   else .fail
 | some (.agg z),some (.array _ elem)=>match szOf P elem with
   | some s=>match fillA (fun i=>some (i * s,s)) z parts with
     | some cells => .ret (.agg cells)
     | none => .fail
   | none => .fail
 | _,_ => .fail
theorem build_snd {P : Program} {E : Env} {H : NL ABlk} (hH : E.H = lk H) (hr : HR E) {t : TypeId} {parts : List (Nat × AV)} {vparts : Array (Nat × Value)}
   (hl : parts.length = vparts.toList.length) (hp : ∀ (k i : Nat) (x : AV),parts[k]? = some (i,x) → ∃ v,vparts.toList[k]? = some (i,v) ∧ Rep E x v) :
   Snd P E H (buildA P t parts) (Instr.build t vparts):=by
 unfold buildA
 split
 · rename_i z fields hz hu
   split
   · rename_i hall
     cases hf : fillA (placesA P fields) z parts with
     | none=>exact Snd.fail
     | some cells =>
       obtain ⟨zv,hzr,hzx⟩:=zeroA_run hz
       have hz0:=hzx E
       simp only [Rep] at hz0
       obtain ⟨zc,rfl,hzl⟩:=hz0
       obtain ⟨vout,h1,h2⟩:=fill_rep hl hp hzl hf
       refine Snd.ret hH hr (v := .agg vout) ?_ (by simp only [Rep]; exact ⟨_,rfl,h2⟩)
       have hmap : (fields.mapM fun f=>do pure (f.offset, ← sizeOf f.type) : Sem (Array (Nat × Nat))).run P E.w = .ok (fields.map fun f=>(f.offset,(szOf P f.type).getD 0)) E.w :=
         run_mapM_array _ _ _ fun f hf=>by
           have:=List.all_eq_true.1 hall f hf
           obtain ⟨s,hs⟩:=Option.isSome_iff_exists.1 this
           simp [run_sizeOf' hs,hs]
       have hpl : (fun i=>(fields.map fun f=>(f.offset,(szOf P f.type).getD 0))[i]?) = placesA P fields:=by
         funext i
         simp only [placesA,Array.getElem?_map]
         cases hfi : fields[i]? with
         | none=>rfl
         | some f =>
           have hm : f ∈ fields.toList:=Array.mem_toList_iff.2 (Array.mem_of_getElem? hfi)
           have:=List.all_eq_true.1 hall f hm
           obtain ⟨s,hs⟩:=Option.isSome_iff_exists.1 this
           simp [hs]
       simp only [Instr.build,Sem.run_bind,hzr,Result.andThen_ok,run_underlying' hu,hmap,Value.cells]
       rw [hpl,h1]
       simp
   · exact Snd.fail
 · rename_i z n elem hz hu
   cases hs : szOf P elem with
   | none=>exact Snd.fail
   | some s =>
     dsimp only
     cases hf : fillA (fun i=>some (i * s,s)) z parts with
     | none=>exact Snd.fail
     | some cells =>
       obtain ⟨zv,hzr,hzx⟩:=zeroA_run hz
       have hz0:=hzx E
       simp only [Rep] at hz0
       obtain ⟨zc,rfl,hzl⟩:=hz0
       obtain ⟨vout,h1,h2⟩:=fill_rep hl hp hzl hf
       refine Snd.ret hH hr (v := .agg vout) ?_ (by simp only [Rep]; exact ⟨_,rfl,h2⟩)
       simp only [Instr.build,Sem.run_bind,hzr,Result.andThen_ok,run_underlying' hu,run_sizeOf' hs,Value.cells]
       rw [h1]
       simp
 · exact Snd.fail
def chunks (size n : Nat) (flat : List AV) : List (List AV) := (List.range n).map fun r => (flat.drop (r * size)).take size
theorem chunks_get {size n : Nat} {flat : List AV} {r : Nat} {row : List AV} (h : (chunks size n flat)[r]? = some row) : r < n ∧ row = (flat.drop (r * size)).take size := by
 simp only [chunks,List.getElem?_map,Option.map_eq_some_iff] at h
 obtain ⟨i,hi,rfl⟩:=h
 have hlt : r < n:=by have:=(List.getElem?_eq_some_iff.1 hi).1; simpa using this
 rw [List.getElem?_range hlt] at hi
 cases hi
 exact ⟨hlt,rfl⟩
def zerosA (z : List AV) (n : Nat) : List AV := (List.range n).map fun i => z.getD (i % z.length) .any
def frzP : List (Nat × AV) → (List (Nat × AV) → AP AV) → AP AV
 | [],k=>k []
 | (i,x) :: r,k=>frzV x fun x'=>frzP r fun r'=>k ((i,x') :: r')
theorem frzP_snd {P : Program} {c : Sem Value} : ∀ {xs : List (Nat × AV)} {E : Env} {H : NL ABlk} (_ : E.H = lk H) (_ : HR E) {vs : List (Nat × Value)} (_ : xs.length = vs.length) (_ : ∀ (k i : Nat) (x : AV),xs[k]? = some (i,x) → ∃ v,vs[k]? = some (i,v) ∧ Rep E x v) {k : List (Nat × AV) → AP AV}
   (_ : ∀ E1 H1 xs',E1.w = E.w → E1.H = lk H1 → HR E1 → Step E E1 → xs'.length = xs.length → (∀ (k i : Nat) (x : AV),xs'[k]? = some (i,x) → ∃ v,vs[k]? = some (i,v) ∧ Rep E1 x v) → Snd P E1 H1 (k xs') c),Snd P E H (frzP xs k) c
 | [],E,H,hH,hr,vs,hl,hx,k,h=>h E H [] rfl hH hr (Step.refl E) rfl (fun k i x h=>by simp at h)
 | (i,x) :: r,E,H,hH,hr,[],hl,hx,k,h=>by simp at hl
 | (i,x) :: r,E,H,hH,hr,(j,v) :: vs,hl,hx,k,h=>by
   obtain ⟨v',hv',hx0⟩:=hx 0 i x (by simp)
   simp only [List.getElem?_cons_zero,Option.some.injEq,Prod.mk.injEq] at hv'
   obtain ⟨rfl,rfl⟩:=hv'
   refine frzV_snd hH hr hx0 fun E1 H1 x' e1 e2 e3 e4 e5=>?_
   refine frzP_snd (vs:=vs) e2 e3 (by simpa using hl) (fun k i y hy=>by
     obtain ⟨u,hu,hyu⟩:=hx (k + 1) i y (by simpa using hy)
     exact ⟨u,by simpa using hu,Rep.mono e4 _ _ hyu⟩) fun E2 H2 r' f1 f2 f3 f4 f5 f6=>?_
   refine h E2 H2 ((j,x') :: r') (f1.trans e1) f2 f3 (e4.trans f4) (by simp [f5]) (fun k i y hy=>?_)
   cases k with
   | zero =>
     simp only [List.getElem?_cons_zero,Option.some.injEq,Prod.mk.injEq] at hy
     obtain ⟨rfl,rfl⟩:=hy
     exact ⟨v,by simp,Rep.mono f4 _ _ e5.rep⟩
   | succ k=>simpa using f6 k i y (by simpa using hy)
def rowsOf (s : Nat) : Nat → List (Nat × AV) → Option (List (List AV))
 | _,[]=>some []
 | k,(i,x) :: r=>if i = k then match x.cellsOf with
   | some cs=>if cs.length = s then match rowsOf s (k + 1) r with
     | some rows=>some (cs :: rows)
     | none=>none
     else none
   | none=>none
   else none
theorem splice_mid {pre rest cs : List AV} (h : cs.length ≤ rest.length) : splice (pre ++ rest) pre.length cs = (pre ++ cs) ++ rest.drop cs.length := by
 unfold splice
 rw [List.take_left' rfl,List.drop_append,List.drop_of_length_le (by omega),List.nil_append]
 congr 2
 omega
theorem fill_rows {s : Nat} : ∀ {parts : List (Nat × AV)} {k : Nat} {rows : List (List AV)} {pre rest : List AV},rowsOf s k parts = some rows → pre.length = k * s → rest.length = rows.length * s →
   fillA (fun i=>some (i * s,s)) (pre ++ rest) parts = some (pre ++ rows.flatten) ∧ ∀ row ∈ rows,row.length = s
 | [],k,rows,pre,rest,h,_,h2=>by
   simp only [rowsOf,Option.some.injEq] at h
   subst h
   have : rest = []:=List.eq_nil_of_length_eq_zero (by simpa using h2)
   subst this
   simp [fillA]
 | (i, x) :: r, k, rows, pre, rest, h, h1, h2 => by
   simp only [rowsOf] at h
   split at h
   · rename_i e
     subst e
     split at h
     · rename_i cs hcs
       split at h
       · rename_i hl
         split at h
         · rename_i rows' hr
           simp only [Option.some.injEq] at h
           subst h
           have hrl : rest.length = rows'.length * s + s:=by rw [h2,List.length_cons,Nat.add_mul,Nat.one_mul]
           have hc : cs.length = s ∧ i * s + cs.length ≤ (pre ++ rest).length:=⟨hl,by rw [List.length_append]; omega⟩
           have hsp : splice (pre ++ rest) (i * s) cs = (pre ++ cs) ++ rest.drop cs.length:=by rw [← h1]; exact splice_mid (by omega)
           obtain ⟨g1,g2⟩:=fill_rows (pre:=pre ++ cs) (rest:=rest.drop cs.length) hr (by rw [List.length_append,Nat.add_mul]; omega) (by rw [List.length_drop]; omega)
           refine ⟨?_,fun row hrow=>?_⟩
           · simp only [fillA,hcs]
             rw [if_pos hc,hsp,g1]
             simp
           · rcases List.mem_cons.1 hrow with rfl | hrow
             · exact hl
             · exact g2 row hrow
         · cases h
       · cases h
     · cases h
   · cases h
theorem chunks_rows {s : Nat} : ∀ (rows : List (List AV)),(∀ row ∈ rows,row.length = s) → chunks s rows.length rows.flatten = rows
 | [],_=>rfl
 | row :: rows,h=>by
   have h0:=h row (by simp)
   have ih:=chunks_rows rows fun r hr=>h r (by simp [hr])
   unfold chunks at ih ⊢
   rw [List.length_cons,List.range_succ_eq_map,List.map_cons,List.map_map]
   congr 1
   · simp [← h0]
   · refine Eq.trans (List.map_congr_left fun r _=>?_) ih
     simp only [Function.comp_def,Nat.succ_eq_add_one,List.flatten_cons]
     rw [Nat.add_mul,Nat.one_mul,Nat.add_comm (r * s) s, ← List.drop_drop]
     congr 2
     rw [← h0,List.drop_left' rfl]
def sliceRows (s len : Nat) (z : List AV) (parts : List (Nat × AV)) : Option (List (List AV)) :=
 match rowsOf s 0 parts with
 | some rows=>if rows.length = len then some rows else (fillA (fun i=>some (i * s,s)) (zerosA z (len * s)) parts).map (chunks s len)
 | none=>(fillA (fun i=>some (i * s,s)) (zerosA z (len * s)) parts).map (chunks s len)
theorem sliceRows_eq (s len : Nat) (z : List AV) (parts : List (Nat × AV)) : sliceRows s len z parts = (fillA (fun i => some (i * s,s)) (zerosA z (len * s)) parts).map (chunks s len) := by
 unfold sliceRows
 split
 · rename_i rows h
   split
   · rename_i hl
     obtain ⟨g1,g2⟩:=fill_rows (pre:=[]) (rest:=zerosA z (len * s)) h (by simp) (by simp [zerosA,hl])
     rw [List.nil_append] at g1
     rw [g1,Option.map_some,List.nil_append, ← hl,chunks_rows rows g2]
   · rfl
 · rfl
def buildSliceA (P : Program) (dst : Nat) (t : TypeId) (len : Nat) (parts : List (Nat × AV)) : AP AV :=
 frzP parts fun parts=>match P.underlying t with
 | some (.slice elem)=>match szOf P elem,(zeroA P elem).bind AV.cellsOf with
   | some s,some z=>if 0 < s ∧ z.length = s ∧ len * s ≤ 2 ^ 24 ∧ len ≤ maxLen then
       match sliceRows s len z parts with
       | some rows=>newRowA (newId dst) elem s true rows (fun g => .sl (newId dst) g 0 len)
       | none => .fail
     else .fail
   | _,_ => .fail
 | _ => .fail
theorem fillA_length {place : Nat → Option (Nat × Nat)} : ∀ {parts : List (Nat × AV)} {cells out : List AV},fillA place cells parts = some out → out.length = cells.length
 | [],_,_,h=>by simp only [fillA,Option.some.injEq] at h; rw [h]
 | (i, x) :: r, cells, out, h => by
   simp only [fillA] at h
   split at h
   · split at h
     · split at h
       · rename_i hc
         rw [fillA_length h,splice_length hc.2]
       · cases h
     · cases h
   · cases h
theorem zeros_rep {E : Env} {z : List AV} {zv : Array Value} (hz : RepL E z zv.toList) (h0 : 0 < z.length) (n : Nat) : RepL E (zerosA z n) ((Array.range n).map (zv[· % zv.size]!)).toList := by
 have hl : zv.size = z.length:=by have:=hz.length; simpa using this
 refine RepL.of_get (by simp [zerosA]) fun i x hx=>?_
 simp only [zerosA,List.getElem?_map,Option.map_eq_some_iff] at hx
 obtain ⟨j,hj,rfl⟩:=hx
 have hlt : i < n:=by have:=(List.getElem?_eq_some_iff.1 hj).1; simpa using this
 rw [List.getElem?_range hlt] at hj; cases hj
 have hm : i % z.length < z.length:=Nat.mod_lt _ h0
 obtain ⟨v,hv,hx⟩:=hz.get (List.getElem?_eq_getElem hm)
 refine ⟨v, ?_,by rw [List.getD_eq_getElem?_getD,List.getElem?_eq_getElem hm]; exact hx⟩
 have hv' : zv[i % z.length]? = some v:=by simpa using hv
 have hb : zv[i % zv.size]! = v:=by
   rw [hl,getElem!_def,hv']
 simp [hlt,hb]
theorem row_of_flat {E : Env} {flat : List AV} {C : Array Value} {s n : Nat} (h : RepL E flat C.toList) (_hl : flat.length = n * s) :
   ∀ (r : Nat) (row : List AV) (j : Nat) (x : AV),(chunks s n flat)[r]? = some row → row[j]? = some x → ∃ u,C[r * s + j]? = some u ∧ Rep E x u:=by
 intro r row j x hr hx
 obtain ⟨hrn,rfl⟩:=chunks_get hr
 rw [List.getElem?_take] at hx
 split at hx
 · rw [List.getElem?_drop] at hx
   obtain ⟨u,hu,hxu⟩:=h.get hx
   exact ⟨u,by simpa using hu,hxu⟩
 · cases hx
theorem buildSlice_snd {P : Program} {E : Env} {H : NL ABlk} (hH : E.H = lk H) (hr : HR E) {dst : Nat} {t : TypeId} {len : Nat} {parts : List (Nat × AV)} {vparts : Array (Nat × Value)}
   (hl : parts.length = vparts.toList.length) (hp : ∀ (k i : Nat) (x : AV),parts[k]? = some (i,x) → ∃ v,vparts.toList[k]? = some (i,v) ∧ Rep E x v) :
   Snd P E H (buildSliceA P dst t len parts) (Instr.buildSlice t len vparts):=by
 unfold buildSliceA
 refine frzP_snd hH hr hl hp fun E0 H0 parts' e1 hH hr e4 hl0 hp=>?_
 have hl : parts'.length = vparts.toList.length:=hl0.trans hl
 have key : ∀ (E : Env) (H : NL ABlk) (parts : List (Nat × AV)),E.H = lk H → HR E → parts.length = vparts.toList.length → (∀ (k i : Nat) (x : AV),parts[k]? = some (i,x) → ∃ v,vparts.toList[k]? = some (i,v) ∧ Rep E x v) →
     Snd P E H (match P.underlying t with
       | some (.slice elem)=>match szOf P elem,(zeroA P elem).bind AV.cellsOf with
         | some s,some z=>if 0 < s ∧ z.length = s ∧ len * s ≤ 2 ^ 24 ∧ len ≤ maxLen then
             match sliceRows s len z parts with
             | some rows=>newRowA (newId dst) elem s true rows (fun g => .sl (newId dst) g 0 len)
             | none => .fail
           else .fail
         | _,_ => .fail
       | _ => .fail) (Instr.buildSlice t len vparts) := ?_
 · exact key E0 H0 parts' hH hr hl hp
 clear hp hl hl0 e4 hr hH e1 parts' H0 E0
 intro E H parts hH hr hl hp
 split
 · rename_i elem hu
   split
   · rename_i s z hs hz
     split
     · rename_i hc
       obtain ⟨h0,hzl,h24,hmx⟩:=hc
       rw [sliceRows_eq]
       cases hf : fillA (fun i=>some (i * s,s)) (zerosA z (len * s)) parts with
       | none=>exact Snd.fail
       | some flat =>
         simp only [Option.map_some]
         obtain ⟨zx,hzx,hzc⟩:=Option.bind_eq_some_iff.1 hz
         obtain ⟨zv,hzr,hzx'⟩:=zeroA_run hzx
         have hzz:=cellsOf_rep hzc (hzx' E)
         have hzer:=zeros_rep hzz (by omega) (len * s)
         obtain ⟨vout,h1,h2⟩:=fill_rep hl hp hzer hf
         have hfl : flat.length = len * s:=by rw [fillA_length hf]; simp [zerosA]
         have hvl : vout.size = len * s:=by have:=h2.length; simp at this; omega
         refine newRow_snd hH hr (C:=vout) (v := .slice (some ⟨E.w.heap.size,0,none⟩) len len) (w':=E.w.alloc (.cells vout elem)) ?_ ⟨by simp,rfl,rfl,rfl⟩ (fun b hb=>heap_alloc_old _ _ _ hb) (heap_alloc_new _ _) ?_ (row_of_flat h2 hfl) ?_
         · have h24' : ¬ (2 ^ 24 < len * s):=by omega
           by_cases hn : len * s = 0
           · have hlen0 : len = 0:=by rcases Nat.mul_eq_zero.1 hn with h | h <;> omega
             subst hlen0
             have hempty : ∀ f : Nat → Value,(Array.range 0).map f = #[]:=fun f=>by simp
             rw [Nat.zero_mul,hempty] at h1
             simp [Instr.buildSlice,run_underlying' hu,run_sizeOf' hs,hempty,h1,newRow]
           · simp only [Instr.buildSlice,Sem.run_bind,run_underlying' hu,Result.andThen_ok,run_sizeOf' hs,gt_iff_lt,if_neg h24',Sem.run_pure,if_neg hn,hzr,h1]
             simp [newRow]
         · simp [chunks,hvl]
         · intro E' g hw hb hφ hcs
           simp only [Rep]
           refine ⟨_,some ⟨E.w.heap.size,0,none⟩,len,len,hb,Nat.le_refl _,rfl,fun _=>⟨.inr rfl,rfl,Nat.le_refl _,hmx,fun _=>⟨by rw [hφ]; simp,by rw [hcs,hvl]; simp⟩⟩⟩
     · exact Snd.fail
   · exact Snd.fail
 · exact Snd.fail
def makeSliceA (P : Program) (dst : Nat) (t : TypeId) (l c : AV) : AP AV :=
 match P.underlying t,l,c with
 | some (.slice elem), .int _ ln, .int _ cn=>match P.info? elem,(zeroA P elem).bind AV.cellsOf with
   | some i,some z=>if 0 < i.size ∧ z.length = i.size ∧ 0 ≤ ln ∧ ln ≤ cn ∧ (i.bytes : Int) * cn ≤ 281474976710656 ∧ cn ≤ 9223372036854775807 then
       .get (newId dst) fun old=>if z.all (fun x=>x.cellish && x.isInl) then .put (newId dst) { gen:=old.gen + 1,kind:=2,elem,size:=i.size,inl:=true,rows:=List.replicate ln.toNat z } (.ret (.sl (newId dst) (old.gen + 1) 0 ln.toNat)) else .fail
     else .fail
   | _,_ => .fail
 | _,_,_ => .fail
theorem makeSlice_snd {P : Program} {E : Env} {H : NL ABlk} (hH : E.H = lk H) (hr : HR E) {dst : Nat} {t : TypeId} {l c : AV} {vl vc : Value} (h1 : Rep E l vl) (h2 : Rep E c vc) :
   Snd P E H (makeSliceA P dst t l c) (Instr.makeSlice t vl vc):=by
 unfold makeSliceA
 split
 · rename_i elem kl ln kc cn hu
   simp only [Rep] at h1 h2
   subst h1; subst h2
   split
   · rename_i i z hi hz
     split
     · rename_i hc
       obtain ⟨g0,g1,g2,g3,g4,g5⟩:=hc
       obtain ⟨zx,hzx,hzc⟩:=Option.bind_eq_some_iff.1 hz
       have hzero : ∃ zv,i.zero = some zv ∧ ofValue zv = zx:=by
         unfold zeroA at hzx
         simp only [hi,Option.bind_some,Option.map_eq_some_iff] at hzx
         exact hzx
       obtain ⟨zv,hzv,rfl⟩:=hzero
       have hzz:=cellsOf_rep hzc (RepI.rep (E:=E) _ _ (ofValue_rep zv))
       have hrun:=run_make (P:=P) E.w t elem i zv hu hi hzv kl kc ln cn g2 g3 g4 g5
       have hsz : (madeCells zv.cells (cn.toNat * i.size)).size = cn.toNat * i.size:=size_madeCells _ _
       have hzer:=zeros_rep hzz (by omega) (cn.toNat * i.size)
       refine Snd.get' ?_
       split
       · rename_i hall
         refine newRow_put (inl:=true) (k:=fun g => .sl (newId dst) g 0 ln.toNat) hH hr (C:=madeCells zv.cells (cn.toNat * i.size)) hrun ⟨by simp,rfl,rfl,rfl⟩ (fun b hb=>heap_alloc_old _ _ _ hb) (heap_alloc_new _ _) ?_ ?_ ?_ g0 (fun r row hrw=>?_)
         rotate_left 3
         · rw [List.getElem?_replicate] at hrw
           split at hrw
           · cases hrw
             refine ⟨g1,fun x hx=>?_⟩
             have:=List.all_eq_true.1 hall x hx
             simpa using this
           · cases hrw
         all_goals clear hall
         all_goals first
           | (rw [hsz,List.length_replicate]; exact Nat.mul_le_mul_right _ (by omega))
           | skip
         · intro r row j x hrw hx
           rw [List.getElem?_replicate] at hrw
           split at hrw
           · rename_i hlt
             cases hrw
             have hj : j < z.length:=(List.getElem?_eq_some_iff.1 hx).1
             have hlt' : r * i.size + j < cn.toNat * i.size:=mul_lt_block (by omega) (by omega)
             have hget : (zerosA z (cn.toNat * i.size))[r * i.size + j]? = some x:=by
               simp only [zerosA,List.getElem?_map,List.getElem?_range hlt',Option.map_some]
               rw [g1,Nat.add_comm,Nat.add_mul_mod_self_right,Nat.mod_eq_of_lt (by omega),List.getD_eq_getElem?_getD,hx]; rfl
             obtain ⟨u,hu',hxu⟩:=hzer.get hget
             exact ⟨u,by unfold madeCells; rw [← Array.getElem?_toList]; exact hu',hxu⟩
           · cases hrw
         · intro E' g hw hb hφ hcs
           simp only [Rep]
           exact ⟨_,some ⟨E.w.heap.size,0,none⟩,ln.toNat,cn.toNat,hb,Nat.le_refl _,rfl,fun _=>⟨.inr rfl,rfl,by omega,by simp only [maxLen]; omega,fun _=>⟨by rw [hφ]; simp,by rw [hcs,hsz]; simp⟩⟩⟩
       · exact Snd.fail
     · exact Snd.fail
   · exact Snd.fail
 · exact Snd.fail
def bndA (d : Nat) : Option AV → Option Nat
 | none=>some d
 | some (.int _ n)=>if 0 ≤ n then some n.toNat else none
 | _=>none
def sliceA (P : Program) (t : TypeId) (x : AV) (lo hi : Option AV) : AP AV :=
 match P.underlying t,x with
 | some (.slice elem), .nils=>match bndA 0 lo,bndA 0 hi,szOf P elem with
   | some 0,some 0,some _ => .ret .nils
   | _,_,_ => .fail
 | some (.slice elem), .list s rows=>match bndA 0 lo,bndA rows.length hi with
   | some l,some h=>if l ≤ h ∧ h ≤ rows.length ∧ szOf P elem = some s then .ret (.list s ((rows.take h).drop l)) else .fail
   | _,_ => .fail
 | some (.slice elem), .sl id g off len => .get id fun b=>match bndA 0 lo,bndA len hi with
   | some l,some h=>if b.gen = g ∧ l ≤ h ∧ h ≤ len ∧ szOf P elem = some b.size then .ret (.sl id g (off + l) (h - l)) else .fail
   | _,_ => .fail
 | some .string, .str s=>match bndA 0 lo,bndA s.size hi with
   | some l,some h=>if l ≤ h ∧ h ≤ s.size then .ret (.str (s.extract l h)) else .fail
   | _,_ => .fail
 | _,_ => .fail
def RepO (E : Env) : Option AV → Option Value → Prop
 | none,none=>True
 | some x,some v=>Rep E x v
 | _,_=>False
theorem bnd_run {P : Program} {E : Env} {d cap y : Nat} {o : Option AV} {v : Option Value} (h : RepO E o v) {n : Nat} (hb : bndA d o = some n) (code : BoundsCode) (hn : n ≤ y) (_hd : d ≤ cap) :
   (match v with | some v=>Instr.sliceBound v y code | none=>pure d).run P E.w = .ok n E.w:=by
 cases o with
 | none =>
   cases v with
   | none=>simp only [bndA,Option.some.injEq] at hb; subst hb; rfl
   | some v=>exact h.elim
 | some x =>
   cases v with
   | none=>exact h.elim
   | some v =>
     cases x <;> simp only [bndA,reduceCtorEq] at hb
     rename_i k m
     split at hb
     · rename_i hm
       simp only [Option.some.injEq] at hb
       subst hb
       simp only [RepO,Rep] at h
       subst h
       have : m ≤ (y : Int):=by omega
       simp [Instr.sliceBound,asIntOf,hm,this]
     · cases hb
theorem bounds_run {P : Program} {E : Env} {isSlice : Bool} {len cap : Nat} {lo hi : Option AV} {vlo vhi : Option Value} (h1 : RepO E lo vlo) (h2 : RepO E hi vhi) {l h : Nat} (hl : bndA 0 lo = some l) (hh : bndA len hi = some h)
   (hlh : l ≤ h) (hhc : h ≤ cap) : (Instr.sliceBounds isSlice len cap vlo vhi none).run P E.w = .ok (l,h,cap) E.w:=by
 have b2:=bnd_run (P:=P) (cap:=len) h2 hh (if isSlice then .sliceAcap else .sliceAlen) hhc (Nat.le_refl _)
 have b1:=bnd_run (P:=P) (cap:=0) h1 hl .sliceB hlh (Nat.le_refl _)
 unfold Instr.sliceBounds
 cases vhi <;> cases vlo <;> simp_all
theorem slice_snd {P : Program} {E : Env} {H : NL ABlk} (hH : E.H = lk H) (hr : HR E) {t : TypeId} {x : AV} {v : Value} {lo hi : Option AV} {vlo vhi : Option Value} (hx : Rep E x v) (h1 : RepO E lo vlo) (h2 : RepO E hi vhi) :
   Snd P E H (sliceA P t x lo hi) (Instr.sliceAt t v vlo vhi none):=by
 unfold sliceA
 split
 · rename_i elem hu
   split
   · rename_i e1 e2 hs
     simp only [Rep] at hx; subst hx
     have hb:=bounds_run (P:=P) (isSlice:=true) (len:=0) (cap:=0) h1 h2 e1 e2 (Nat.le_refl _) (Nat.le_refl _)
     refine Snd.ret hH hr (v := .slice none 0 0) ?_ (by simp only [Rep])
     simp [Instr.sliceAt,run_underlying' hu,Instr.slice,hb,run_sizeOf' hs]
   · exact Snd.fail
 · rename_i elem s rows hu
   split
   · rename_i l h e1 e2
     split
     · rename_i hc
       obtain ⟨g1,g2,g3⟩:=hc
       simp only [Rep,RepI] at hx
       rcases hx with ⟨rfl,rfl⟩ | ⟨a,cap,rfl,i1,i2,i3,i4⟩
       · have hh : h = 0:=by simpa using g2
         subst hh
         have hl : l = 0:=by omega
         subst hl
         have hb:=bounds_run (P:=P) (isSlice:=true) (len:=0) (cap:=0) h1 h2 e1 (by simpa using e2) (Nat.le_refl _) (Nat.le_refl _)
         refine Snd.ret hH hr (v := .slice none 0 0) ?_ (by simp [Rep,RepI])
         simp [Instr.sliceAt,run_underlying' hu,Instr.slice,hb,run_sizeOf' g3]
       · have hb := bounds_run (P := P) (isSlice := true) (len := rows.length) (cap := cap) h1 h2 e1 e2 g1 (by omega)
         refine Snd.ret hH hr (v := .slice (if cap = l then some a else some (a.add (l * s))) (h - l) (cap - l)) ?_ ?_
         · simp [Instr.sliceAt,run_underlying' hu,Instr.slice,hb,run_sizeOf' g3]
         · have hlen : ((rows.take h).drop l).length = h - l:=by rw [List.length_drop,List.length_take]; omega
           simp only [Rep,RepI]
           right
           refine ⟨if cap = l then a else a.add (l * s),cap - l,by rw [hlen]; split <;> rfl,by rw [hlen]; omega,by omega,fun hn=>?_, ?_⟩
           · have hpos : 0 < h - l:=by rw [← hlen]; exact List.length_pos_iff.2 hn
             have hne : rows ≠ []:=by intro e; subst e; simp at g2; omega
             obtain ⟨p1,p2⟩:=i3 hne
             rw [if_neg (by omega),add_add' a _ p1]
             exact ⟨rfl,p2⟩
           · by_cases hpos : 0 < h - l
             · have hne : rows ≠ []:=by intro e; subst e; simp at g2; omega
               obtain ⟨p1,p2⟩:=i3 hne
               rw [if_neg (by omega),add_add' a _ p1]
               refine RepRows.of_get fun i row hrow=>?_
               rw [List.getElem?_drop,List.getElem?_take] at hrow
               split at hrow
               · have:=i4.get hrow
                 refine ⟨this.1, ?_⟩
                 have e : a.off + l * s + i * s = a.off + (l + i) * s:=by rw [Nat.add_mul]; omega
                 simp only [e]; exact this.2
               · cases hrow
             · have : (rows.take h).drop l = []:=List.eq_nil_of_length_eq_zero (by omega)
               rw [this]
               simp only [RepRows]
     · exact Snd.fail
   · exact Snd.fail
 · rename_i elem id g off len hu
   simp only [Rep] at hx
   obtain ⟨blk,oa,len',cap,hb,hle,rfl,hg⟩:=hx
   refine Snd.get (by rw [← hH]; exact hb) ?_
   split
   · rename_i l h e1 e2
     split
     · rename_i hc
       obtain ⟨g0,g1,g2,g3⟩:=hc
       obtain ⟨hk,rfl,i1,i2,i3⟩:=hg g0
       have hbd:=bounds_run (P:=P) (isSlice:=true) (len:=len') (cap:=cap) h1 h2 e1 e2 g1 (by omega)
       refine Snd.ret hH hr (v := .slice (if cap = l then oa else oa.map (·.add (l * blk.size))) (h - l) (cap - l)) ?_ ?_
       · simp [Instr.sliceAt,run_underlying' hu,Instr.slice,hbd,run_sizeOf' g3]
       · simp only [Rep]
         refine ⟨blk,_,_,_,hb,hle,rfl,fun _=>⟨hk,rfl,by omega,by omega,fun hp=>?_⟩⟩
         obtain ⟨rfl,j2⟩:=i3 (by omega)
         rw [if_neg (by omega)]
         refine ⟨?_, ?_⟩
         · simp only [Option.map_some,add_mk,Nat.add_mul]
         · have e : off + l + (cap - l) = off + cap:=by omega
           rw [e]; exact j2
     · exact Snd.fail
   · exact Snd.fail
 · rename_i s hu
   split
   · rename_i l h e1 e2
     split
     · rename_i hc
       simp only [Rep] at hx; subst hx
       have hbd:=bounds_run (P:=P) (isSlice:=false) (len:=s.size) (cap:=s.size) h1 h2 e1 e2 hc.1 hc.2
       refine Snd.retStr hH hr ?_
       simp [Instr.sliceAt,run_underlying' hu,Instr.slice,hbd]
     · exact Snd.fail
   · exact Snd.fail
 · exact Snd.fail
end
end Go.Abs
namespace Go.Abs
open Go
section
def partV (P : Program) (t : TypeId) (cells : List AV) (off : Nat) : Option AV :=
 match aggT P t with
 | some true=>match szOf P t with
   | some s=>some (.agg ((cells.drop off).take s))
   | none=>none
 | some false=>cells[off]?
 | none=>none
def eqFs (P : Program) (q : TypeId → AV → AV → Option Bool) (xs ys : List AV) : List Field → Option Bool
 | []=>some true
 | f :: r => if f.name = "_" then eqFs P q xs ys r else
   match partV P f.type xs f.offset,partV P f.type ys f.offset with
   | some a,some b=>match q f.type a b,eqFs P q xs ys r with
     | some x,some y=>some (x && y)
     | _,_=>none
   | _,_=>none
def eqIs (P : Program) (q : TypeId → AV → AV → Option Bool) (e : TypeId) (c : Nat) (xs ys : List AV) : List Nat → Option Bool
 | []=>some true
 | i :: r =>
   match partV P e xs (i * c),partV P e ys (i * c) with
   | some a,some b=>match q e a b,eqIs P q e c xs ys r with
     | some x,some y=>some (x && y)
     | _,_=>none
   | _,_=>none
def eqV (P : Program) : Nat → TypeId → AV → AV → Option Bool
 | 0,_,_,_=>none
 | d + 1,t,x,y =>
   match P.underlying t,x,y with
   | some .bool, .bool a, .bool b=>some (a == b)
   | some (.int _), .int k a, .int k' b=>if k = k' then some (a == b) else none
   | some .string, .str a, .str b=>some (a.toList == b.toList)
   | some (.struct fs), .agg xs, .agg ys=>if P.stoodInHeld t = false then eqFs P (eqV P d) xs ys fs.toList else none
   | some (.array n e), .agg xs, .agg ys=>if (P.info? e).isSome then eqIs P (eqV P d) e (P.cellsOf e) xs ys (List.range n) else none
   | _,_,_=>none
theorem partV_run {P : Program} {E : Env} {t : TypeId} {cells : List AV} {cs : Array Value} {off : Nat} {x : AV} (hx : RepL E cells cs.toList) (h : partV P t cells off = some x) :
   ∃ v,(∀ w,(part t cs off).run P w = .ok v w) ∧ Rep E x v:=by
 unfold partV at h
 cases ha : aggT P t with
 | none=>simp [ha] at h
 | some b =>
   cases b with
   | true =>
     cases hs : szOf P t with
     | none=>simp [ha,hs] at h
     | some s =>
       simp only [ha,hs,Option.some.injEq] at h
       subst h
       refine ⟨.agg (cs.extract off (off + s)),fun w=>?_, ?_⟩
       · simp [part,run_isAgg' ha,run_sizeOf' hs]
       · simp only [Rep]
         refine ⟨_,rfl, ?_⟩
         rw [Array.toList_extract,List.extract_eq_take_drop,show off + s - off = s from by omega]
         exact (hx.drop off).take s
   | false =>
     simp only [ha] at h
     obtain ⟨v,hv,hr'⟩:=hx.get h
     have hv' : cs[off]? = some v:=by simpa using hv
     exact ⟨v,fun w=>by simp [part,run_isAgg' ha,hv'],hr'⟩
theorem eqFs_run {P : Program} {E : Env} {q : TypeId → AV → AV → Option Bool} {d : Nat} (hq : ∀ (t : TypeId) (x y : AV) (v u : Value) (b : Bool),q t x y = some b → Rep E x v → Rep E y u → ∀ w,(Op.equalIn d t v u).run P w = .ok b w)
   {xs ys : List AV} {vs us : Array Value} (hx : RepL E xs vs.toList) (hy : RepL E ys us.toList) : ∀ {fs : List Field} {b : Bool},eqFs P q xs ys fs = some b → ∀ w,(Op.eqFields d vs us fs).run P w = .ok b w
 | [],b,h,w=>by simp only [eqFs,Option.some.injEq] at h; subst h; simp [Op.eqFields]
 | f :: r,b,h,w=>by
   simp only [eqFs] at h
   split at h
   · rename_i hn
     simp only [Op.eqFields,hn,ne_eq,not_true_eq_false,if_false]
     exact eqFs_run hq hx hy h w
   · rename_i hn
     split at h
     · rename_i a c ha hc
       obtain ⟨va,ra,xa⟩:=partV_run hx ha
       obtain ⟨vc,rc,xc⟩:=partV_run hy hc
       split at h
       · rename_i b1 b2 e1 e2
         simp only [Option.some.injEq] at h
         subst h
         have hr:=eqFs_run hq hx hy e2
         simp only [Op.eqFields,ne_eq,hn,not_false_eq_true,if_true,Sem.run_bind,ra,rc,Result.andThen_ok,hq _ _ _ _ _ _ e1 xa xc w]
         cases b1
         · simp
         · simpa using hr w
       · cases h
     · cases h
theorem eqIs_run {P : Program} {E : Env} {q : TypeId → AV → AV → Option Bool} {d : Nat} (hq : ∀ (t : TypeId) (x y : AV) (v u : Value) (b : Bool),q t x y = some b → Rep E x v → Rep E y u → ∀ w,(Op.equalIn d t v u).run P w = .ok b w)
   {e : TypeId} {c : Nat} {xs ys : List AV} {vs us : Array Value} (hx : RepL E xs vs.toList) (hy : RepL E ys us.toList) : ∀ {is : List Nat} {b : Bool},eqIs P q e c xs ys is = some b → ∀ w,(Op.eqItems d e c vs us is).run P w = .ok b w
 | [],b,h,w=>by simp only [eqIs,Option.some.injEq] at h; subst h; simp [Op.eqItems]
 | i :: r,b,h,w=>by
   simp only [eqIs] at h
   split at h
   · rename_i a c' ha hc
     obtain ⟨va,ra,xa⟩:=partV_run hx ha
     obtain ⟨vc,rc,xc⟩:=partV_run hy hc
     split at h
     · rename_i b1 b2 e1 e2
       simp only [Option.some.injEq] at h
       subst h
       have hr:=eqIs_run hq hx hy e2
       simp only [Op.eqItems,Sem.run_bind,ra,rc,Result.andThen_ok,hq _ _ _ _ _ _ e1 xa xc w]
       cases b1
       · simp
       · simpa using hr w
     · cases h
   · cases h
theorem eqV_run {P : Program} {E : Env} : ∀ {d : Nat} (m : Nat),d ≤ m → ∀ (t : TypeId) (x y : AV) (v u : Value) (b : Bool),eqV P d t x y = some b → Rep E x v → Rep E y u → ∀ w,(Op.equalIn m t v u).run P w = .ok b w
 | 0,_,_,_,_,_,_,_,_,h,_,_,_=>by simp [eqV] at h
 | d + 1,0,hm,_,_,_,_,_,_,_,_,_,_=>by omega
 | d + 1,m + 1,hm,t,x,y,v,u,b,h,hx,hy,w=>by
   simp only [eqV] at h
   split at h
   · rename_i hu
     simp only [Rep] at hx hy; subst hx; subst hy
     simp only [Option.some.injEq] at h; subst h
     exact run_equalIn_bool' w m t _ _ hu
   · rename_i hu
     simp only [Rep] at hx hy; subst hx; subst hy
     split at h
     · rename_i hk; subst hk
       simp only [Option.some.injEq] at h; subst h
       exact run_equalIn_int w m t _ _ _ _ hu
     · cases h
   · rename_i hu
     simp only [Rep] at hx hy; subst hx; subst hy
     simp only [Option.some.injEq] at h; subst h
     exact run_equalIn_string w m t _ _ hu
   · rename_i fs xs ys hu
     simp only [Rep] at hx hy
     obtain ⟨vs,rfl,hvx⟩:=hx
     obtain ⟨us,rfl,hvy⟩:=hy
     split at h
     · rename_i hp
       have hf : P.fieldsOf t = fs:=by simp [Program.fieldsOf,hu]
       rw [run_equalIn_struct w m t vs us (by rw [hf]; exact hu) hp,hf]
       exact eqFs_run (fun t x y v u b h1 h2 h3 w=>eqV_run m (by omega) t x y v u b h1 h2 h3 w) hvx hvy h w
     · cases h
   · rename_i n e xs ys hu
     simp only [Rep] at hx hy
     obtain ⟨vs,rfl,hvx⟩:=hx
     obtain ⟨us,rfl,hvy⟩:=hy
     split at h
     · rename_i hi
       obtain ⟨i,hi⟩:=Option.isSome_iff_exists.1 hi
       rw [run_equalIn_array w m vs us hu hi]
       exact eqIs_run (fun t x y v u b h1 h2 h3 w=>eqV_run m (by omega) t x y v u b h1 h2 h3 w) hvx hvy h w
     · cases h
   · cases h
end
end Go.Abs
