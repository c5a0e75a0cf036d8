/- Capacities, copying, appending room of zeros, cuts that hand a slice on, abstractly. Conditions: none. -/
import Derived.Test.YtphclapfniepoaaAb3
import Derived.Lib.Overlaps
import Derived.ChangeKeysEq
namespace Go.Abs
open Go
set_option linter.unusedSimpArgs false
set_option linter.unusedVariables false
section
theorem splice_get' {α : Type} {l : List α} {p : Nat} {vs : List α} (h : p ≤ l.length) (i : Nat) :
   (splice l p vs)[i]? = if i < p then l[i]? else if i < p + vs.length then vs[i - p]? else l[i]?:=by
 have ht : (l.take p).length = p:=by rw [List.length_take]; omega
 unfold splice
 by_cases h1 : i < p
 · rw [if_pos h1,List.append_assoc,List.getElem?_append_left (by omega),List.getElem?_take,if_pos h1]
 · rw [if_neg h1]
   by_cases h2 : i < p + vs.length
   · rw [if_pos h2,List.getElem?_append_left (by rw [List.length_append]; omega),List.getElem?_append_right (by omega),ht]
   · rw [if_neg h2,List.getElem?_append_right (by rw [List.length_append]; omega),List.getElem?_drop]
     congr 1; rw [List.length_append]; omega
theorem splice_length' {α : Type} {l : List α} {p : Nat} {vs : List α} (h : p ≤ l.length) : (splice l p vs).length = max l.length (p + vs.length) := by
 simp only [splice,List.length_append,List.length_take,List.length_drop]; omega
structure Dst (E : Env) (blk : ABlk) (id off len : Nat) (v : Value) : Prop where
 has : E.H id = some blk
 val : ∃ a cap,v = .slice a len cap ∧ len ≤ cap ∧ cap ≤ maxLen ∧ (0 < cap → a = some ⟨E.φ id,off * blk.size,none⟩ ∧ (off + cap) * blk.size ≤ E.cs id)
theorem dst_sl {E : Env} {id g off len : Nat} {v : Value} (h : Rep E (.sl id g off len) v) {blk : ABlk} (hb : E.H id = some blk) (hg : blk.gen = g) : Dst E blk id off len v := by
 simp only [Rep] at h
 obtain ⟨b,a,len',cap,h1,_,rfl,h2⟩:=h
 rw [hb] at h1; cases h1
 obtain ⟨_,rfl,h3,h4,h5⟩:=h2 hg
 exact ⟨hb,a,cap,rfl,h3,h4,h5⟩
theorem dst_slc {E : Env} {id g off len c : Nat} {v : Value} (h : Rep E (.slc id g off len c) v) {blk : ABlk} (hb : E.H id = some blk) (hg : blk.gen = g) : Dst E blk id off len v := by
 simp only [Rep] at h
 obtain ⟨b,a,len',cap,h1,_,rfl,h2, -⟩:=h
 rw [hb] at h1; cases h1
 obtain ⟨_,rfl,rfl,h3,h4,h5⟩:=h2 hg
 exact ⟨hb,a,cap,rfl,h3,h4,h5⟩
def copyTo (id g off len size : Nat) (s : AV) : AP AV := rowsA size s fun news => .get id fun b =>
 if b.gen = g ∧ b.kind = 2 ∧ b.size = size ∧ b.inl = true ∧ off ≤ b.rows.length then
   .put id { b with rows:=splice b.rows off (news.take len) } (.ret (.int .i64 (min len news.length : Nat)))
 else .fail
def srcA (len : Nat) (s : AV) : AV := match s with
 | .slc i g o l _ => .sl i g o (min len l)
 | s=>s
def copyA (P : Program) (t : TypeId) (d s : AV) : AP AV := match P.underlying t with
 | some (.slice elem)=>match szOf P elem with
   | some size=>match d with
     | .sl id g off len=>copyTo id g off len size (srcA len s)
     | .slc id g off len _=>copyTo id g off len size (srcA len s)
     | _ => .fail
   | none => .fail
 | _ => .fail
theorem copyTo_dead {id g off len size : Nat} {s : AV} {H : NL ABlk} {blk : ABlk} (hb : lk H id = some blk) (hg : blk.gen ≠ g) : (copyTo id g off len size s).run H = none := by
 unfold copyTo rowsA
 split
 · simp [AP.run,hb,hg]
 · split
   · simp [AP.run,hb,hg]
   · rfl
 · rename_i i g' o l
   simp only [AP.run]
   cases lk H i with
   | none=>simp [AP.run]
   | some b =>
     dsimp only
     by_cases hc : b.gen = g' ∧ (b.kind = 1 ∨ b.kind = 2) ∧ o + l ≤ b.rows.length ∧ b.size = size ∧ b.inl = true
     · simp [AP.run,hc,hb,hg]
     · simp [AP.run,hc]
 · simp [AP.run,hb,hg]
 · rfl
theorem copy_short {t t' ty : TypeId} {b : Option Addr} {dl dc : Nat} {a : Option Addr} {sl sc : Nat} :
   Builtin.copy_ #[t,t'] ty #[.slice b dl dc, .slice a sl sc] = Builtin.copy_ #[t,t'] ty #[.slice b dl dc, .slice a (min dl sl) sc]:=by
 have h : Nat.min sl dl = Nat.min (min dl sl) dl:=by
   have h1 : Nat.min sl dl = min sl dl:=rfl
   have h2 : Nat.min (min dl sl) dl = min (min dl sl) dl:=rfl
   omega
 unfold Builtin.copy_
 simp only [List.getElem?_toArray,List.getElem?_cons_zero,List.getElem?_cons_succ,Builtin.lenOf,Builtin.firstCells,pure_bind]
 simp only [h]
 cases a <;> rfl
theorem srcA_rep {E : Env} {len : Nat} {s : AV} {v : Value} (hs : Rep E s v) {t t' ty : TypeId} {b : Option Addr} {dc : Nat} :
   ∃ v',Rep E (srcA len s) v' ∧ Builtin.copy_ #[t,t'] ty #[.slice b len dc,v] = Builtin.copy_ #[t,t'] ty #[.slice b len dc,v']:=by
 unfold srcA
 split
 · rename_i i g o l c
   simp only [Rep] at hs
   obtain ⟨blk,a,len',cap',h1,h2,rfl,h3, -⟩:=hs
   refine ⟨.slice a (min len len') cap', ?_,copy_short⟩
   simp only [Rep]
   refine ⟨blk,a,_,_,h1,h2,rfl,fun hg=>?_⟩
   obtain ⟨k1,rfl,rfl,k2,k3,k4⟩:=h3 hg
   exact ⟨k1,rfl,by omega,k3,k4⟩
 · exact ⟨v,hs,rfl⟩
theorem copyTo_snd {P : Program} {E : Env} {H : NL ABlk} (hH : E.H = lk H) (hr : HR E) {t t' ty elem : TypeId} (hu : P.underlying t = some (.slice elem)) {size : Nat} (hz : szOf P elem = some size) {id g off len : Nat} {s : AV} {vd vs : Value}
   (hd : ∀ blk,E.H id = some blk → blk.gen = g → Dst E blk id off len vd) (hb0 : ∃ blk,E.H id = some blk) (hs : Rep E s vs) :
   Snd P E H (copyTo id g off len size s) (Builtin.copy_ #[t,t'] ty #[vd,vs]):=by
 unfold copyTo
 obtain ⟨blk,hb⟩:=hb0
 refine rowsA_snd hH hr hs fun news hl src=>Snd.get (by rw [← hH]; exact hb) ?_
 split
 · rename_i hc
   obtain ⟨hg,hk,rfl,hinl,hoff⟩:=hc
   obtain ⟨_,a,cap,rfl,h1,h2,h3⟩:=hd blk hb hg
   obtain ⟨C,hC,hcs,hsz,hlen,hrl,hcell⟩:=hr.cells hb (.inr hk)
   obtain ⟨oa,scap,hv⟩:=src.val
   have hz' : ∀ w,(sizeOf elem).run P w = .ok blk.size w:=fun w=>run_sizeOf' hz w
   rcases Nat.eq_zero_or_pos (min len news.length) with hm | hm
   · -- nothing to copy
     have hnil : news.take len = []:=by
       refine List.eq_nil_of_length_eq_zero ?_
       rw [List.length_take]; exact hm
     have hsame : ({ blk with rows:=splice blk.rows off (news.take len) } : ABlk) = blk:=by
       rw [hnil]
       have : splice blk.rows off [] = blk.rows:=by simp [splice]
       rw [this]
     rw [hsame]
     have hx : ∃ v,(Builtin.copy_ #[t,t'] ty #[.slice a len cap,vs]).run P E.w = .ok v E.w ∧ v = .int .i64 (min len news.length : Nat):=by
       rw [hv]
       have hm' : Nat.min news.length len = 0:=by have : min len news.length = Nat.min news.length len:=Nat.min_comm _ _; omega
       have hm2 : min news.length len = 0:=hm'
       cases oa <;> cases a <;> simp [Builtin.copy_,run_underlying' hu,hz',Builtin.lenOf,Builtin.firstCells,hm',hm2,hm,loadCells,loadCellsFrom,storeCells,goInt]
     obtain ⟨v,hx,rfl⟩:=hx
     refine Snd.put_ret E _ hx ?_ hr (Step.refl E) (by simp only [Rep])
     rw [hH]; funext k
     by_cases e : id = k
     · subst e; simp only [upd_same]; rw [← hH]; exact hb
     · simp only [upd_other _ _ _ e]
   · have hn : 0 < news.length:=by omega
     obtain ⟨sa,sc,nv,hv',n1,n2,n3,n4⟩:=src.cells hn
     generalize hk0 : min len news.length = k at hm
     have hkl : k ≤ len:=by omega
     have hkn : k ≤ news.length:=by omega
     obtain ⟨rfl,h4⟩:=h3 (by omega)
     have hcp : 0 < E.cs id:=by have : 0 < (off + cap) * blk.size:=Nat.mul_pos (by omega) hsz; omega
     have hvl : (news.take len).length = k:=by rw [List.length_take]; exact hk0
     have hnl : (nv.take (k * blk.size)).length = k * blk.size:=by
       rw [List.length_take,n1]
       exact Nat.min_eq_left (Nat.mul_le_mul_right _ hkn)
     have hfit : off * blk.size + (nv.take (k * blk.size)).length ≤ C.size:=by
       rw [hnl, ← Nat.add_mul,hcs]
       exact Nat.le_trans (Nat.mul_le_mul_right _ (by omega)) h4
     have hone : ∀ u ∈ nv.take (k * blk.size),u.oneCell' = true:=fun u hu=>n3 u (List.mem_of_mem_take hu)
     have hst:=run_storeCells_at P (E.φ id) (off * blk.size) blk.elem (nv.take (k * blk.size)) 0 C E.w (hC hcp) (by simpa using hfit) hone
     simp only [Nat.add_zero] at hst
     have hsp : (C.toList.take (off * blk.size) ++ nv.take (k * blk.size) ++ C.toList.drop (off * blk.size + (nv.take (k * blk.size)).length)) = splice C.toList (off * blk.size) (nv.take (k * blk.size)):=rfl
     rw [hsp] at hst
     have hfit' : off * blk.size + (nv.take (k * blk.size)).length ≤ C.toList.length:=by simpa using hfit
     have hld : (loadCells sa (k * blk.size)).run P E.w = .ok (nv.take (k * blk.size)).toArray E.w:=by
       have:=run_loadCells_list (P:=P) E.w sa (nv.take (k * blk.size)) (fun j u hu=>by
         rw [List.getElem?_take] at hu
         split at hu
         · exact n2 j u hu
         · cases hu)
       rwa [hnl] at this
     obtain ⟨q1,q2⟩:=hr.write (blk':={ blk with rows:=splice blk.rows off (news.take len) }) (C:=(splice C.toList (off * blk.size) (nv.take (k * blk.size))).toArray) (w':=E.w.setRow (E.φ id) (splice C.toList (off * blk.size) (nv.take (k * blk.size))).toArray)
       hb hk hcp ⟨by simp,rfl,rfl,rfl⟩ (fun b hne=>setRow_other _ _ _ _ hne) (setRow_heap _ _ _ _ _ _ (hC hcp)) (by rw [List.size_toArray,splice_length hfit',Array.length_toList,hcs]) hk (Nat.le_refl _) rfl rfl
       (by have esz : (splice C.toList (off * blk.size) (nv.take (k * blk.size))).toArray.size = C.size:=by rw [List.size_toArray,splice_length hfit',Array.length_toList]
           rw [esz]
           show (splice blk.rows off (news.take len)).length * blk.size ≤ C.size
           rw [splice_length' hoff,hvl]
           rcases Nat.le_total blk.rows.length (off + k) with q | q
           · rw [Nat.max_eq_right q,hcs]
             exact Nat.le_trans (Nat.mul_le_mul_right _ (by omega)) h4
           · rw [Nat.max_eq_left q]; exact hlen)
       (fun r row h=>by
         rw [splice_get' hoff,hvl] at h
         split at h
         · exact hrl r row h
         · split at h
           · rw [List.getElem?_take] at h
             split at h
             · exact hl _ row h
             · cases h
           · exact hrl r row h)
       (fun r row j x h hx=>by
         rw [List.getElem?_toArray,splice_get hfit',hnl]
         rw [splice_get' hoff,hvl] at h
         split at h
         · rename_i hr1
           obtain ⟨u,p1,p2,p3⟩:=hcell r row j x h hx
           have hj : j < blk.size:=by rw [← hrl r row h]; exact (List.getElem?_eq_some_iff.1 hx).1
           rw [if_pos (mul_lt_block hr1 hj)]
           exact ⟨u,by simpa using p1,p2,p3⟩
         · rename_i hr1
           split at h
           · rename_i hr2
             rw [List.getElem?_take] at h
             split at h
             · obtain ⟨u,p1,p3⟩:=n4 _ row j x h hx
               have hj : j < blk.size:=by rw [← hl _ row h]; exact (List.getElem?_eq_some_iff.1 hx).1
               have e1 : r * blk.size = (r - off) * blk.size + off * blk.size:=by rw [← Nat.add_mul]; congr 1; omega
               have e2 : (r - off) * blk.size + j < k * blk.size:=mul_lt_block (by omega) hj
               rw [if_neg (by omega),if_pos (by omega)]
               refine ⟨u, ?_,n3 u (List.mem_of_getElem? p1), ?_⟩
               · rw [List.getElem?_take,if_pos (by omega), ← p1]; congr 1; omega
               · rw [hinl]; exact p3
             · cases h
           · rename_i hr2
             obtain ⟨u,p1,p2,p3⟩:=hcell r row j x h hx
             have e1 : (off + k) * blk.size ≤ r * blk.size:=Nat.mul_le_mul_right _ (by omega)
             rw [Nat.add_mul] at e1
             rw [if_neg (by omega),if_neg (by omega)]
             exact ⟨u,by simpa using p1,p2,p3⟩)
     refine Snd.put_ret _ (.int .i64 (k : Nat)) ?_ (by rw [hH]) q1 q2 (by simp only [Rep])
     rw [hv']
     have hk1 : Nat.min news.length len = k:=by rw [← hk0]; exact Nat.min_comm _ _
     have hk2 : min news.length len = k:=hk1
     simp [Builtin.copy_,run_underlying' hu,hz',Builtin.lenOf,Builtin.firstCells,hk1,hk2,hld,hst,goInt]
 · exact Snd.fail
theorem copy_snd {P : Program} {E : Env} {H : NL ABlk} (hH : E.H = lk H) (hr : HR E) {t t' ty : TypeId} {d s : AV} {vd vs : Value} (hd : Rep E d vd) (hs : Rep E s vs) : Snd P E H (copyA P t d s) (Builtin.copy_ #[t,t'] ty #[vd,vs]) := by
 unfold copyA
 split
 · rename_i elem hu
   split
   · rename_i size hz
     split
     · rename_i id g off len
       have hd':=hd
       simp only [Rep] at hd
       obtain ⟨b,a,len',cap,h1,_,rfl,h2⟩:=hd
       by_cases hg : b.gen = g
       · obtain ⟨_,rfl,_⟩:=h2 hg
         obtain ⟨v',r1,r2⟩:=srcA_rep (len:=len') hs (t:=t) (t':=t') (ty:=ty) (b:=a) (dc:=cap)
         rw [r2]
         exact copyTo_snd hH hr hu hz (fun blk hb hg=>dst_sl hd' hb hg) ⟨b,h1⟩ r1
       · intro out ho
         rw [copyTo_dead (by rw [← hH]; exact h1) hg] at ho
         cases ho
     · rename_i id g off len c
       have hd':=hd
       simp only [Rep] at hd
       obtain ⟨b,a,len',cap,h1,_,rfl,h2, -⟩:=hd
       by_cases hg : b.gen = g
       · obtain ⟨_,rfl,_⟩:=h2 hg
         obtain ⟨v',r1,r2⟩:=srcA_rep (len:=len') hs (t:=t) (t':=t') (ty:=ty) (b:=a) (dc:=cap)
         rw [r2]
         exact copyTo_snd hH hr hu hz (fun blk hb hg=>dst_slc hd' hb hg) ⟨b,h1⟩ r1
       · intro out ho
         rw [copyTo_dead (by rw [← hH]; exact h1) hg] at ho
         cases ho
     · exact Snd.fail
   · exact Snd.fail
 · exact Snd.fail
def sliceCA (P : Program) (t : TypeId) (x : AV) (lo hi : Option AV) : AP AV :=
 match P.underlying t,x with
 | some (.slice elem), .slc id g off len cap => .get id fun b=>match bndA 0 lo,bndA len hi with
   | some l,some h=>if b.gen = g ∧ l ≤ h ∧ h ≤ cap ∧ szOf P elem = some b.size then .ret (.slc id g (off + l) (h - l) (cap - l)) else .fail
   | _,_ => .fail
 | _,_ => .fail
theorem sliceC_snd {P : Program} {E : Env} {H : NL ABlk} (hH : E.H = lk H) (hr : HR E) {t : TypeId} {x : AV} {v : Value} {lo hi : Option AV} {vlo vhi : Option Value} (hx : Rep E x v) (h1 : RepO E lo vlo) (h2 : RepO E hi vhi) :
   Snd P E H (sliceCA P t x lo hi) (Instr.sliceAt t v vlo vhi none):=by
 unfold sliceCA
 split
 · rename_i elem id g off len c hu
   simp only [Rep] at hx
   obtain ⟨blk,oa,len',cap,hb,hle,rfl,hg, -⟩:=hx
   refine Snd.get (by rw [← hH]; exact hb) ?_
   split
   · rename_i l h e1 e2
     split
     · rename_i hc
       obtain ⟨g0,g1,g2,g3⟩:=hc
       obtain ⟨hk,rfl,rfl,i1,i2,i3⟩:=hg g0
       have hbd:=bounds_run (P:=P) (isSlice:=true) (len:=len') (cap:=cap) h1 h2 e1 e2 g1 g2
       refine Snd.ret hH hr (v := .slice (if cap = l then oa else oa.map (·.add (l * blk.size))) (h - l) (cap - l)) ?_ ?_
       · simp [Instr.sliceAt,run_underlying' hu,Instr.slice,hbd,run_sizeOf' g3]
       · simp only [Rep]
         refine ⟨blk,_,_,_,hb,hle,rfl,fun _=>⟨hk,rfl,rfl,by omega,by omega,fun hp=>?_⟩,rfl,rfl,by omega,by omega⟩
         obtain ⟨rfl,j2⟩:=i3 (by omega)
         rw [if_neg (by omega)]
         refine ⟨?_, ?_⟩
         · simp only [Option.map_some,add_mk,Nat.add_mul]
         · have e : off + l + (cap - l) = off + cap:=by omega
           rw [e]; exact j2
     · exact Snd.fail
   · exact Snd.fail
 · exact Snd.fail
def slice3W (P : Program) (t : TypeId) (x : AV) (lo hi : Option AV) (mx : AV) : AP AV :=
 match P.underlying t,x,hi,mx with
 | some (.slice elem), .sl id g 0 len,some (.int _ h), .int _ m=>match bndA 0 lo with
   | some 0 => .get id fun b=>if b.gen = g ∧ b.kind = 2 ∧ 0 ≤ h ∧ h = m ∧ h.toNat ≤ len ∧ szOf P elem = some b.size then
       .put id { b with gen:=b.gen + 1,rows:=b.rows.take h.toNat } (.ret (.sl id (b.gen + 1) 0 h.toNat))
     else .fail
   | _ => .fail
 | _,_,_,_ => .fail
theorem slice3W_snd {P : Program} {E : Env} {H : NL ABlk} (hH : E.H = lk H) (hr : HR E) {t : TypeId} {x mx : AV} {v vm : Value} {lo hi : Option AV} {vlo vhi : Option Value} (hx : Rep E x v) (h1 : RepO E lo vlo) (h2 : RepO E hi vhi) (h3 : Rep E mx vm) :
   Snd P E H (slice3W P t x lo hi mx) (Instr.sliceAt t v vlo vhi (some vm)):=by
 unfold slice3W
 split
 · rename_i elem id g len kh h km m hu
   split
   · rename_i hlo
     simp only [Rep] at hx h3
     obtain ⟨blk,oa,len',cap,hb,hle,rfl,hg⟩:=hx
     subst h3
     refine Snd.get (by rw [← hH]; exact hb) ?_
     split
     · rename_i hc
       obtain ⟨g0,g1,g2,rfl,g4,g5⟩:=hc
       obtain ⟨_,rfl,i1,i2,i3⟩:=hg g0
       obtain ⟨n,rfl⟩ : ∃ n : Nat,h = n:=⟨h.toNat,by omega⟩
       simp only [Int.toNat_natCast] at g4 ⊢
       obtain ⟨q1,q2⟩:=hr.shrink hb g1 n
       have hv : ∃ vh,vhi = some vh ∧ vh = .int kh (n : Int):=by
         cases vhi with
         | none=>exact h2.elim
         | some vh=>simp only [RepO,Rep] at h2; exact ⟨vh,rfl,h2⟩
       obtain ⟨vh,rfl,rfl⟩:=hv
       have hbd : (Instr.sliceBounds true len' cap vlo (some (.int kh (n : Int))) (some (.int km (n : Int)))).run P E.w = .ok (0,n,n) E.w:=by
         have e1 : n ≤ cap:=by omega
         have b1:=bnd_run (P:=P) (E:=E) (d:=0) (cap:=0) (y:=n) h1 hlo .slice3C (Nat.zero_le _) (Nat.le_refl _)
         have bh : ∀ (k : IntKind) (y : Nat) (code : BoundsCode),n ≤ y → (Instr.sliceBound (.int k (n : Int)) y code).run P E.w = .ok n E.w:=fun k y code hy=>by
           simp [Instr.sliceBound,asIntOf,hy]
         unfold Instr.sliceBounds
         cases vlo with
         | none=>simp [bh _ cap _ e1,bh _ n _ (Nat.le_refl n)]
         | some vl =>
           have b1' : (Instr.sliceBound vl n .slice3C).run P E.w = .ok 0 E.w:=b1
           simp [bh _ cap _ e1,bh _ n _ (Nat.le_refl n),b1']
       refine Snd.put_ret _ (.slice (if n = 0 then oa else oa.map (·.add (0 * blk.size))) n n) ?_ (by rw [hH]) q1 q2 ?_
       · simp [Instr.sliceAt,run_underlying' hu,Instr.slice,hbd,run_sizeOf' g5]
       · simp only [Rep,upd_same]
         refine ⟨_,_,_,_,rfl,Nat.le_refl _,rfl,fun _=>⟨.inr g1,rfl,Nat.le_refl _,by omega,fun hp=>?_⟩⟩
         obtain ⟨rfl,j2⟩:=i3 (by omega)
         rw [if_neg (by omega)]
         refine ⟨by simp [add_mk], ?_⟩
         refine Nat.le_trans (Nat.mul_le_mul_right _ ?_) j2
         omega
     · exact Snd.fail
   · exact Snd.fail
 · exact Snd.fail
def slice3C (P : Program) (t : TypeId) (x : AV) (lo hi : Option AV) (mx : AV) : AP AV :=
 match P.underlying t,x,lo,hi,mx with
 | some (.slice elem), .sl id g off len,some (.int _ l),some (.int _ h), .int _ m => .get id fun b =>
   if b.gen = g ∧ (b.kind = 1 ∨ b.kind = 2) ∧ 0 ≤ l ∧ l ≤ h ∧ h ≤ m ∧ m.toNat ≤ len ∧ szOf P elem = some b.size then .ret (.slc id g (off + l.toNat) (h.toNat - l.toNat) (m.toNat - l.toNat)) else .fail
 | _,_,_,_,_ => .fail
theorem slice3C_snd {P : Program} {E : Env} {H : NL ABlk} (hH : E.H = lk H) (hr : HR E) {t : TypeId} {x mx : AV} {v vm : Value} {lo hi : Option AV} {vlo vhi : Option Value} (hx : Rep E x v) (h1 : RepO E lo vlo) (h2 : RepO E hi vhi) (h3 : Rep E mx vm) :
   Snd P E H (slice3C P t x lo hi mx) (Instr.sliceAt t v vlo vhi (some vm)):=by
 unfold slice3C
 split
 · rename_i elem id g off len kl l kh h km m hu
   simp only [Rep] at hx h3
   obtain ⟨blk,oa,len',cap,hb,hle,rfl,hg⟩:=hx
   subst h3
   refine Snd.get (by rw [← hH]; exact hb) ?_
   split
   · rename_i hc
     obtain ⟨g0,g1,c1,c2,c3,c4,c5⟩:=hc
     obtain ⟨_,rfl,i1,i2,i3⟩:=hg g0
     obtain ⟨l,rfl⟩ : ∃ n : Nat,l = n:=⟨l.toNat,by omega⟩
     obtain ⟨h,rfl⟩ : ∃ n : Nat,h = n:=⟨h.toNat,by omega⟩
     obtain ⟨m,rfl⟩ : ∃ n : Nat,m = n:=⟨m.toNat,by omega⟩
     simp only [Int.toNat_natCast] at c4 ⊢
     have hv : ∃ vl vh,vlo = some vl ∧ vl = .int kl (l : Int) ∧ vhi = some vh ∧ vh = .int kh (h : Int):=by
       cases vlo with
       | none=>exact h1.elim
       | some vl=>cases vhi with
         | none=>exact h2.elim
         | some vh=>simp only [RepO,Rep] at h1 h2; exact ⟨vl,vh,rfl,h1,rfl,h2⟩
     obtain ⟨vl,vh,rfl,rfl,rfl,rfl⟩:=hv
     have bh : ∀ (k : IntKind) (n y : Nat) (code : BoundsCode),n ≤ y → (Instr.sliceBound (.int k (n : Int)) y code).run P E.w = .ok n E.w:=fun k n y code hy=>by
       simp [Instr.sliceBound,asIntOf,hy]
     have hbd : (Instr.sliceBounds true len' cap (some (.int kl (l : Int))) (some (.int kh (h : Int))) (some (.int km (m : Int)))).run P E.w = .ok (l,h,m) E.w:=by
       unfold Instr.sliceBounds
       simp [bh _ m cap _ (by omega),bh _ h m _ (by omega),bh _ l h _ (by omega)]
     refine Snd.ret hH hr (v := .slice (if m = l then oa else oa.map (·.add (l * blk.size))) (h - l) (m - l)) ?_ ?_
     · simp [Instr.sliceAt,run_underlying' hu,Instr.slice,hbd,run_sizeOf' c5]
     · simp only [Rep]
       refine ⟨blk,_,_,_,hb,hle,rfl,fun _=>⟨g1,rfl,rfl,by omega,by omega,fun hp=>?_⟩,rfl,rfl,by omega,by omega⟩
       obtain ⟨rfl,j2⟩:=i3 (by omega)
       rw [if_neg (by omega)]
       refine ⟨?_, ?_⟩
       · simp only [Option.map_some,add_mk,Nat.add_mul]
       · exact Nat.le_trans (Nat.mul_le_mul_right _ (by omega)) j2
   · exact Snd.fail
 · exact Snd.fail
def slice3A (P : Program) (t : TypeId) (x : AV) (lo hi : Option AV) (mx : AV) : AP AV := match lo with
 | none=>slice3W P t x none hi mx
 | some l=>slice3C P t x (some l) hi mx
theorem slice3_snd {P : Program} {E : Env} {H : NL ABlk} (hH : E.H = lk H) (hr : HR E) {t : TypeId} {x mx : AV} {v vm : Value} {lo hi : Option AV} {vlo vhi : Option Value} (hx : Rep E x v) (h1 : RepO E lo vlo) (h2 : RepO E hi vhi) (h3 : Rep E mx vm) :
   Snd P E H (slice3A P t x lo hi mx) (Instr.sliceAt t v vlo vhi (some vm)):=by
 unfold slice3A
 split
 · exact slice3W_snd hH hr hx h1 h2 h3
 · exact slice3C_snd hH hr hx h1 h2 h3
def capA (P : Program) (t : TypeId) (x : AV) : AP AV := match P.underlying t,x with
 | some (.slice _), .slc id g _ _ cap => .get id fun b=>if b.gen = g then .ret (.int .i64 cap) else .fail
 | some (.slice _), .nils => .ret (.int .i64 0)
 | _,_ => .fail
theorem cap_snd {P : Program} {E : Env} {H : NL ABlk} (hH : E.H = lk H) (hr : HR E) {t ty : TypeId} {x : AV} {v : Value} (hx : Rep E x v) : Snd P E H (capA P t x) (Builtin.cap_ #[t] ty #[v]) := by
 unfold capA
 split
 · rename_i h1
   simp only [Rep] at hx
   obtain ⟨blk,a,len',cap,hb,hle,rfl,hg, -⟩:=hx
   refine Snd.get (by rw [← hH]; exact hb) ?_
   split
   · rename_i hc
     obtain ⟨hk,rfl,rfl,h2,h3,h4⟩:=hg hc
     refine Snd.retInt hH hr ?_
     simp [Builtin.cap_,run_underlying' h1,goInt]
   · exact Snd.fail
 · rename_i h1
   simp only [Rep] at hx; subst hx
   exact Snd.retInt hH hr (by simp [Builtin.cap_,run_underlying' h1,goInt])
 · exact Snd.fail
def lenCA (P : Program) (t : TypeId) (x : AV) : AP AV := match P.underlying t,x with
 | some (.slice _), .slc _ _ _ len _ => .asm (len ≤ maxLen) (.ret (.int .i64 len))
 | _,_ => .fail
theorem lenC_snd {P : Program} {E : Env} {H : NL ABlk} (hH : E.H = lk H) (hr : HR E) {t ty : TypeId} {x : AV} {v : Value} (hx : Rep E x v) : Snd P E H (lenCA P t x) (Builtin.len_ #[t] ty #[v]) := by
 unfold lenCA
 split
 · rename_i h1
   simp only [Rep] at hx
   obtain ⟨blk,a,len',cap,hb,hle,rfl,hg,rfl,rfl,h2,h3⟩:=hx
   refine Snd.asm (by omega) (Snd.retInt hH hr ?_)
   simp [Builtin.len_,run_underlying' h1,goInt]
 · exact Snd.fail
theorem run_append_zeros_grow {P : Program} (w : World) (t tn ty e : TypeId) (i : TypeInfo) (z : Value) (k kn : IntKind) (ht : P.underlying t = some (.slice e)) (htn : P.underlying tn = some (.int kn)) (hi : P.info? e = some i) (hz : i.zero = some z)
   (base : Option Addr) (sLen sCap : Nat) (olds : List Value) (holds : (Builtin.firstCells i.size sLen (.slice base sLen sCap)).run P w.drew = .ok olds.toArray w.drew)
   (n : Nat) (h0 : 0 < n) (hs : 0 < i.size) (hg : sCap < sLen + n) (h63 : ((sLen + n : Nat) : Int) ≤ 9223372036854775807) (h48 : n * i.bytes ≤ 281474976710656) (hfit : Builtin.nextslicecap (sLen + n) sCap * i.bytes ≤ 281474976710656) :
   (Builtin.append_ #[t,tn] ty #[.slice base sLen sCap, .int k n]).run P w =
     .ok (.slice (some ⟨w.heap.size,0,none⟩) (sLen + n) (grownCap w (sLen + n) sCap e))
       (w.drew.alloc (.cells (olds.toArray ++ Builtin.zeroCells z.cells n ++ Builtin.zeroCells z.cells (grownCap w (sLen + n) sCap e - (sLen + n))) e)):=by
 have hn : n ≠ 0:=by omega
 have hw : IntKind.i64.wrap (n : Int) = n:=by rw [IntKind.wrap_i64]; omega
 have hnc : ¬ (sLen + n ≤ sCap):=by omega
 have h63' : ¬ (9223372036854775807 < ((sLen : Int) + (n : Int))):=by omega
 have h48' : ¬ (281474976710656 < Builtin.nextslicecap (sLen + n) sCap * i.bytes):=by omega
 have h48i : ¬ (281474976710656 < (n : Int) * (i.bytes : Int)):=by
   rw [← Int.natCast_mul]
   omega
 have hneg : ¬ ((n : Int) < 0):=by omega
 have hns : ¬ (n * i.size = 0):=Nat.mul_ne_zero hn (by omega)
 simp [Builtin.append_,run_underlying ht,run_underlying htn,sizeOf,typeInfo,zeroValue,hi,hz,asInt,asIntOf,hw,hn,hneg,hns,hnc,h63',h48',h48i,Question.forced,holds,newRow,grownCap]
def appendZA (P : Program) (dst : Nat) (t t' : TypeId) (s x : AV) : AP AV :=
 match P.underlying t,P.underlying t',s,x with
 | some (.slice elem),some (.int _), .slc id g off len cap, .int _ n=>match P.info? elem,(zeroA P elem).bind AV.cellsOf with
   | some i,some z => .get id fun b =>
     if b.gen = g ∧ b.inl = true ∧ b.size = i.size ∧ off + len ≤ b.rows.length ∧ 0 < i.size ∧ z.length = i.size ∧ z.all (fun x=>x.cellish && x.isInl) = true ∧ 0 < n ∧ cap < len + n.toNat ∧ (len + n.toNat) * i.bytes ≤ 140737488355328 ∧ len + n.toNat ≤ maxLen then
       .get (newId dst) fun old => .put (newId dst) { gen:=old.gen + 1,kind:=2,elem,size:=i.size,inl:=true,rows:=(b.rows.drop off).take len ++ List.replicate n.toNat z } (.ret (.sl (newId dst) (old.gen + 1) 0 (len + n.toNat)))
     else .fail
   | _,_ => .fail
 | _,_,_,_ => .fail
theorem appendZ_snd {P : Program} {E : Env} {H : NL ABlk} (hH : E.H = lk H) (hr : HR E) {dst : Nat} {t t' ty : TypeId} {s x : AV} {vs vx : Value} (hs : Rep E s vs) (hx : Rep E x vx) :
   Snd P E H (appendZA P dst t t' s x) (Builtin.append_ #[t,t'] ty #[vs,vx]):=by
 unfold appendZA
 split
 · rename_i elem kn id g off len cap kx n hu hu'
   split
   · rename_i i z hi hz
     simp only [Rep] at hs hx
     obtain ⟨blk,oa,len',cap',hb,hle,rfl,hg, -⟩:=hs
     subst hx
     refine Snd.get (by rw [← hH]; exact hb) ?_
     split
     · rename_i hc
       obtain ⟨c1,c2,c3,c4,c5,c6,c7,c8,c9,c10,c11⟩:=hc
       obtain ⟨hk,rfl,rfl,i1,i2,i3⟩:=hg c1
       obtain ⟨m,rfl⟩ : ∃ m : Nat,n = m:=⟨n.toNat,by omega⟩
       simp only [Int.toNat_natCast] at c9 c10 c11 ⊢
       have hm0 : 0 < m:=by omega
       obtain ⟨C,hC,hcs,hsz,hlen,hrl,hcell⟩:=hr.cells hb hk
       obtain ⟨zx,hzx,hzc⟩:=Option.bind_eq_some_iff.1 hz
       have hzero : ∃ zv,i.zero = some zv ∧ ofValue zv = zx:=by
         unfold zeroA at hzx
         simp only [hi,Option.bind_some,Option.map_eq_some_iff] at hzx
         exact hzx
       obtain ⟨zv,hzv,rfl⟩:=hzero
       have hzz:=cellsOf_rep hzc (RepI.rep (E:=E) _ _ (ofValue_rep zv))
       have hzl : zv.cells.size = i.size:=by have:=hzz.length; simp at this; omega
       refine Snd.get' ?_
       generalize hgen : ((lk H (newId dst)).getD {}).gen + 1 = g'
       have hg' : ∀ old,E.H (newId dst) = some old → old.gen < g':=fun old ho=>by rw [hH] at ho; simp [ho] at hgen; omega
       have hov : ∃ ov : List Value,ov.length = len' * i.size ∧ (Builtin.firstCells i.size len' (.slice oa len' cap')).run P E.w.drew = .ok ov.toArray E.w.drew ∧
           ∀ (r : Nat) (row : List AV) (j : Nat) (x : AV),((blk.rows.drop off).take len')[r]? = some row → row[j]? = some x → ∃ u,ov[r * i.size + j]? = some u ∧ u.oneCell' = true ∧ RepI E.w E.imm x u:=by
         rcases Nat.eq_zero_or_pos cap' with q | q
         · have hl0 : len' = 0:=by omega
           subst hl0
           refine ⟨[],by simp, ?_,fun r row j x h=>by simp at h⟩
           cases oa <;> simp [Builtin.firstCells,loadCells,loadCellsFrom]
         · obtain ⟨rfl,h4⟩:=i3 q
           have hcp : 0 < E.cs id:=by have : 0 < (off + cap') * blk.size:=Nat.mul_pos (by omega) hsz; omega
           have hfit : off * i.size + len' * i.size ≤ C.size:=by
             rw [← Nat.add_mul,hcs, ← c3]
             exact Nat.le_trans (Nat.mul_le_mul_right _ (by omega)) h4
           have hol : ((C.toList.drop (off * i.size)).take (len' * i.size)).length = len' * i.size:=by
             rw [List.length_take,List.length_drop,Array.length_toList]; omega
           refine ⟨(C.toList.drop (off * i.size)).take (len' * i.size),hol,run_firstCells_some (P:=P) E.w.drew i.size len' _ len' cap' _ hol (fun j u hu=>?_),fun r row j x h hx=>?_⟩
           · rw [List.getElem?_take] at hu
             split at hu
             · rw [List.getElem?_drop] at hu
               have : E.w.drew.cell? ((⟨E.φ id,off * blk.size,none⟩ : Addr).add j) = E.w.cell? ⟨E.φ id,off * blk.size + j,none⟩:=by rw [add_mk]; rfl
               rw [this,cell_of_heap (hC hcp),c3]
               simpa using hu
             · cases hu
           · rw [List.getElem?_take] at h
             split at h
             · rename_i hlt
               rw [List.getElem?_drop] at h
               obtain ⟨u,p1,p2,p3⟩:=hcell _ row j x h hx
               rw [c2] at p3
               have hj : j < i.size:=by rw [← c3, ← hrl _ row h]; exact (List.getElem?_eq_some_iff.1 hx).1
               refine ⟨u, ?_,p2,p3⟩
               rw [List.getElem?_take,if_pos (mul_lt_block hlt hj),List.getElem?_drop]
               have e : off * i.size + (r * i.size + j) = (off + r) * blk.size + j:=by rw [c3,Nat.add_mul]; omega
               rw [e]; simpa using p1
             · cases h
       obtain ⟨ov,o1,o2,o3⟩:=hov
       have hrun:=run_append_zeros_grow (P:=P) E.w t t' ty elem i zv kx kn hu hu' hi hzv oa len' cap' ov o2 m hm0 c5 c9 (by simp only [maxLen] at c11; omega) (by
         have : m * i.bytes ≤ (len' + m) * i.bytes:=Nat.mul_le_mul_right _ (by omega)
         omega) (growslice_fits (by omega) c10)
       have hge:=grownCap_ge E.w (len' + m) cap' elem
       have hcm:=grownCap_le_maxLen E.w (len' + m) cap' elem c11
       have zlen : ∀ k,(Builtin.zeroCells zv.cells k).toList.length = k * i.size:=fun k=>by rw [Array.length_toList,size_zeroCells,hzl]
       have hll : ((blk.rows.drop off).take len').length = len':=by rw [List.length_take,List.length_drop]; omega
       have hzer:=zeros_rep hzz (by omega) (m * zv.cells.size)
       obtain ⟨E',e1,e2,e3,e4,e5⟩:=grown_env hr (id:=newId dst) (g:=g') (elem:=elem) (size:=i.size) (rows:=(blk.rows.drop off).take len' ++ List.replicate m z) (olds:=ov ++ (Builtin.zeroCells zv.cells m).toList) (zs:=(Builtin.zeroCells zv.cells (grownCap E.w (len' + m) cap' elem - (len' + m))).toList)
         (w':=E.w.drew.alloc (.cells (ov.toArray ++ Builtin.zeroCells zv.cells m ++ Builtin.zeroCells zv.cells (grownCap E.w (len' + m) cap' elem - (len' + m))) elem)) (need:=len' + m) (cap:=grownCap E.w (len' + m) cap' elem)
         (by congr 2; apply Array.ext'; simp) c5 hg' (by rw [List.length_append,hll,List.length_replicate]) (by rw [List.length_append,o1,zlen,Nat.add_mul]) (zlen _) hge hcm
         (fun r row h=>by
           rw [List.getElem?_append] at h
           split at h
           · rw [List.getElem?_take] at h
             split at h
             · rw [List.getElem?_drop] at h; rw [← c3]; exact hrl _ row h
             · cases h
           · rw [List.getElem?_replicate] at h
             split at h
             · cases h; exact c6
             · cases h)
         (fun r row j x h hx=>by
           rw [List.getElem?_append] at h
           split at h
           · obtain ⟨u,p1,p2,p3⟩:=o3 r row j x h hx
             exact ⟨u,by rw [List.getElem?_append_left (List.getElem?_eq_some_iff.1 p1).1]; exact p1,p2,p3⟩
           · rename_i hge'
             rw [hll] at hge' h
             rw [List.getElem?_replicate] at h
             split at h
             · rename_i hlt
               cases h
               have hj : j < z.length:=(List.getElem?_eq_some_iff.1 hx).1
               have hlt' : (r - len') * i.size + j < m * i.size:=mul_lt_block (by omega) (by omega)
               have hget : (zerosA z (m * zv.cells.size))[(r - len') * i.size + j]? = some x:=by
                 simp only [zerosA,List.getElem?_map,List.getElem?_range (show (r - len') * i.size + j < m * zv.cells.size by rw [hzl]; exact hlt'),Option.map_some]
                 rw [c6,Nat.add_comm,Nat.add_mul_mod_self_right,Nat.mod_eq_of_lt (by omega),List.getD_eq_getElem?_getD,hx]; rfl
               obtain ⟨u,hu2,hxu⟩:=hzer.get hget
               have hxi:=List.all_eq_true.1 c7 x (List.mem_of_getElem? hx)
               simp only [Bool.and_eq_true] at hxi
               refine ⟨u, ?_,oneCell_of hxu hxi.1,isInl_rep hxu hxi.2⟩
               have er : r * i.size = (r - len') * i.size + len' * i.size:=by rw [← Nat.add_mul]; congr 1; omega
               rw [List.getElem?_append_right (by rw [o1,er]; omega),o1,er,show (r - len') * i.size + len' * i.size + j - len' * i.size = (r - len') * i.size + j by omega]
               exact hu2
             · cases h)
       refine Snd.put_ret E' _ ?_ (by rw [e2,hH]) e3 e4 e5
       rw [e1]; exact hrun
     · exact Snd.fail
   · exact Snd.fail
 · exact Snd.fail
theorem ovl_generic : Extern.allGenericRows.lookup "slices.overlaps" = none := by kernel_rfl
theorem ovl_typed : Extern.allTypedRows.lookup "slices.overlaps" = some Extern.SlicesOverlaps.overlaps := by kernel_rfl
theorem ovl_next : Extern.allNextRows.lookup "slices.overlaps" = none := by kernel_rfl
theorem ovl_triv {P : Program} {w : World} {tS tR e : TypeId} (ht : P.underlying tS = some (.slice e)) {size : Nat} (hz : ∀ w,(sizeOf e).run P w = .ok size w) {a b : Option Addr} {la ca lb cb : Nat} (h : a = none ∨ b = none ∨ la = 0 ∨ lb = 0) :
   (Extern.SlicesOverlaps.overlaps #[tS,tS] #[tR] #[.slice a la ca, .slice b lb cb]).run P w = .ok (.bool false) w:=by
 change Sem.run P (α:=Value) (do
   let some t := (#[tS, tS] : Array TypeId)[0]? | stuck "slices.overlaps: no parameter types"
   let .slice elem ← underlying t | stuck "slices.overlaps: slice type expected"
   let size ← sizeOf elem
   match a,b with
   | some a,some b =>
     if la = 0 ∨ lb = 0 ∨ size = 0 then pure (Value.bool false)
     else if a.block != b.block && (← frozen a) && (← frozen b) then unsupported .addressObserved
     else do
       if a.block != b.block then do
         noView a; noView b
         if ← mayBeOne a b then return Value.bool ((← choose (.extern "sameAddr.stringBytes" 2)) == 1)
       pure (Value.bool (a.block == b.block && a.off < b.off + lb * size && b.off < a.off + la * size))
   | _,_=>pure (Value.bool false)) w = _
 cases a with
 | none=>simp [run_underlying ht,hz]
 | some a=>cases b with
   | none=>simp [run_underlying ht,hz]
   | some b =>
     have h0 : la = 0 ∨ lb = 0 ∨ size = 0:=by
       rcases h with h | h | h | h
       · cases h
       · cases h
       · exact .inl h
       · exact .inr (.inl h)
     simp [run_underlying ht,hz,h0]
def ovlB (P : Program) (f : FuncId) : Bool := match P.funcs[f]? with
 | some fn => fn.body.isNone && !(fn.name == "runtime.NumGoroutine") && (fn.origin == "slices.overlaps" && ((Extern.allNextRows.lookup fn.name).isNone && ((Extern.allGenericRows.lookup fn.name).isNone && ((Extern.allTypedRows.lookup fn.name).isNone && ((Extern.allRows.lookup fn.name).isNone && (fn.resultTypes.size == 1))))))
 | none=>false
def ovlT (P : Program) (f : FuncId) : Option (TypeId × Nat) := match P.funcs[f]? with
 | some fn=>match fn.params.toList with
   | [t,t']=>if t = t' then match P.underlying t with
       | some (.slice e)=>(szOf P e).map fun s=>(t,s)
       | _=>none
     else none
   | _=>none
 | none=>none
def AV.place : AV → Option (Nat × Nat)
 | .sl id g _ _=>some (id,g)
 | .slc id g _ _ _=>some (id,g)
 | _=>none
def extA (P : Program) (f : FuncId) (args : List AV) : AP AV :=
 if ovlB P f = true then match ovlT P f,args with
   | some _,[x,y]=>match x.place,y.place with
     | some (i,g),some (j,g') => .get i fun b => .get j fun b'=>if b.gen = g ∧ b'.gen = g' ∧ i ≠ j ∧ (b.kind = 1 ∨ b.kind = 2) ∧ (b'.kind = 1 ∨ b'.kind = 2) then .ret (.bool false) else .fail
     | _,_ => .fail
   | _,_ => .fail
 else .fail
theorem place_rep {E : Env} {x : AV} {v : Value} (hx : Rep E x v) {i g : Nat} (hp : x.place = some (i,g)) : ∃ blk,E.H i = some blk ∧ (blk.gen = g → ∃ off len cap a,v = .slice a len cap ∧ len ≤ cap ∧ (0 < cap → a = some ⟨E.φ i,off * blk.size,none⟩ ∧ (off + cap) * blk.size ≤ E.cs i)) ∧ ∃ a len cap,v = .slice a len cap := by
 cases x <;> simp only [AV.place,Option.some.injEq,Prod.mk.injEq,reduceCtorEq] at hp
 · obtain ⟨rfl,rfl⟩:=hp
   simp only [Rep] at hx
   obtain ⟨blk,a,len',cap,hb,_,rfl,hg⟩:=hx
   refine ⟨blk,hb,fun e=>?_,_,_,_,rfl⟩
   obtain ⟨_,rfl,h1,_,h3⟩:=hg e
   exact ⟨_,_,_,_,rfl,h1,h3⟩
 · obtain ⟨rfl,rfl⟩:=hp
   simp only [Rep] at hx
   obtain ⟨blk,a,len',cap,hb,_,rfl,hg, -⟩:=hx
   refine ⟨blk,hb,fun e=>?_,_,_,_,rfl⟩
   obtain ⟨_,rfl,rfl,h1,_,h3⟩:=hg e
   exact ⟨_,_,_,_,rfl,h1,h3⟩
theorem ext_snd {P : Program} {E : Env} {H : NL ABlk} (hH : E.H = lk H) (hr : HR E) {f : FuncId} {args : List AV} {vs : Array Value} (hx : RepL E args vs.toList) {out : Out AV} (ho : (extA P f args).run H = some out) :
   ∃ v,(callFunc f vs).run P E.w = .ok (.value v) E.w ∧ E.H = lk out.H ∧ Rep E out.val v ∧ out.as:=by
 unfold extA at ho
 by_cases hB : ovlB P f = true
 · rw [if_pos hB] at ho
   cases hT : ovlT P f with
   | none=>simp [hT,AP.run] at ho
   | some ts =>
     simp only [hT] at ho
     split at ho
     · rename_i x y _ _
       split at ho
       · rename_i i g j g' p1 p2
         simp only [RepL] at hx
         obtain ⟨vx,_,hvs,hx1,vy,_,rfl,hy1,rfl⟩:=hx
         obtain ⟨b1,hb1,k1,a1,l1,c1,rfl⟩:=place_rep hx1 p1
         obtain ⟨b2,hb2,k2,a2,l2,c2,rfl⟩:=place_rep hy1 p2
         have hb1' : lk H i = some b1:=by rw [← hH]; exact hb1
         have hb2' : lk H j = some b2:=by rw [← hH]; exact hb2
         simp only [AP.run,hb1',hb2'] at ho
         by_cases hc : b1.gen = g ∧ b2.gen = g' ∧ i ≠ j ∧ (b1.kind = 1 ∨ b1.kind = 2) ∧ (b2.kind = 1 ∨ b2.kind = 2)
         · rw [if_pos hc] at ho
           simp only [AP.run,Option.some.injEq] at ho
           subst ho
           obtain ⟨q1,q2,q3,q4,q5⟩:=hc
           refine ⟨.bool false, ?_,hH,by simp only [Rep],trivial⟩
           have hvs' : vs = #[.slice a1 l1 c1, .slice a2 l2 c2]:=Array.ext' hvs
           unfold ovlB at hB
           unfold ovlT at hT
           cases hf : P.funcs[f]? with
           | none=>simp [hf] at hB
           | some fn =>
             simp only [hf,Bool.and_eq_true,Bool.not_eq_true',beq_iff_eq] at hB hT
             obtain ⟨⟨z1,z2⟩,z3,z4,z5,z6,z7,z8⟩:=hB
             have hnext : Extern.findNext fn = none:=by
               unfold Extern.findNext
               simp only [z3,ovl_next]
               rw [Option.isNone_iff_eq_none.1 z4]; rfl
             have hfind : Extern.find fn = some (Extern.SlicesOverlaps.overlaps fn.params fn.resultTypes):=by
               unfold Extern.find
               simp only [z3,ovl_typed,ovl_generic]
               rw [Option.isNone_iff_eq_none.1 z5,Option.isNone_iff_eq_none.1 z6,Option.isNone_iff_eq_none.1 z7]; rfl
             rw [run_callFunc_extern hf z2 z1 hnext hfind]
             split at hT
             · rename_i t t' hp
               split at hT
               · rename_i htt
                 subst htt
                 split at hT
                 · rename_i e hu
                   obtain ⟨size,hsz,_⟩:=Option.map_eq_some_iff.1 hT
                   have hpar : fn.params = #[t,t]:=Array.ext' hp
                   have hres : ∃ r,fn.resultTypes = #[r]:=by
                     have:=z8
                     match h : fn.resultTypes with
                     | ⟨[r]⟩=>exact ⟨r,rfl⟩
                     | ⟨[]⟩=>rw [h] at this; simp at this
                     | ⟨_ :: _ :: _⟩=>rw [h] at this; simp at this
                   obtain ⟨r,hres⟩:=hres
                   rw [hpar,hres,hvs']
                   have hzz : ∀ w,(sizeOf e).run P w = .ok size w:=fun w=>run_sizeOf' hsz w
                   have key : (Extern.SlicesOverlaps.overlaps #[t,t] #[r] #[.slice a1 l1 c1, .slice a2 l2 c2]).run P E.w = .ok (.bool false) E.w:=by
                     have triv : (a1 = none ∨ a2 = none ∨ l1 = 0 ∨ l2 = 0) → (Extern.SlicesOverlaps.overlaps #[t,t] #[r] #[.slice a1 l1 c1, .slice a2 l2 c2]).run P E.w = .ok (.bool false) E.w:=by
                       exact ovl_triv hu hzz
                     obtain ⟨off1,len1,cap1,ad1,e1,f1,g1⟩:=k1 q1
                     obtain ⟨off2,len2,cap2,ad2,e2,f2,g2⟩:=k2 q2
                     clear k1 k2
                     cases e1; cases e2
                     by_cases h0 : l1 = 0 ∨ l2 = 0
                     · exact triv (.inr (.inr h0))
                     · obtain ⟨rfl,n1⟩:=g1 (by omega)
                       obtain ⟨rfl,n2⟩:=g2 (by omega)
                       obtain ⟨C1,hC1,hcs1,hsz1,_⟩:=hr.cells hb1 q4
                       obtain ⟨C2,hC2,hcs2,hsz2,_⟩:=hr.cells hb2 q5
                       have m1 : 0 < E.cs i:=by have : 0 < (off1 + c1) * b1.size:=Nat.mul_pos (by omega) hsz1; omega
                       have m2 : 0 < E.cs j:=by have : 0 < (off2 + c2) * b2.size:=Nat.mul_pos (by omega) hsz2; omega
                       have h1:=hC1 m1
                       have h2:=hC2 m2
                       refine Lib.run_overlaps_apart E.w t r e hu size hzz _ _ l1 c1 l2 c2 (hr.inj i j b1 b2 hb1 hb2 (by omega) (by omega) m1 m2 q3) b1.elem b2.elem C1.size C2.size ?_ ?_ (by omega) ?_ ?_
                       · simp [World.shape?,h1]
                       · simp [World.shape?,h2]
                       · simp [World.frozen?,h1]
                       · simp [World.frozen?,h1]
                   rw [key]; rfl
                 · cases hT
               · cases hT
             · cases hT
         · rw [if_neg hc] at ho; simp [AP.run] at ho
       · simp [AP.run] at ho
     · simp [AP.run] at ho
 · rw [if_neg hB] at ho; simp [AP.run] at ho
theorem run_append_roomAt {P : Program} (w : World) (t ty e : TypeId) (i : TypeInfo) (ht : P.underlying t = some (.slice e)) (hi : P.info? e = some i)
   (g o sLen sCap : Nat) (cur : Array Value) (hg : w.heap[g]? = some (.cells cur e (0,0)))
   (a : Addr) (m c : Nat) (news : List Value) (hl : news.length = m * i.size) (hnews : ∀ j u,news[j]? = some u → w.cell? (a.add j) = some u) (h1 : ∀ u ∈ news,u.oneCell' = true)
   (hroom : sLen + m ≤ sCap) (hfit : o + sLen * i.size + news.length ≤ cur.size) :
   (Builtin.append_ #[t,t] ty #[.slice (some ⟨g,o,none⟩) sLen sCap, .slice (some a) m c]).run P w =
     .ok (.slice (some ⟨g,o,none⟩) (sLen + m) sCap) (w.setRow g (splice cur.toList (o + sLen * i.size) news).toArray):=by
 have hf:=run_firstCells_some (P:=P) w i.size m a m c news hl hnews
 have hst:=run_storeCells_at P g (o + sLen * i.size) e news 0 cur w hg (by simpa using hfit) h1
 simp only [Nat.add_zero] at hst
 have hsp : (cur.toList.take (o + sLen * i.size) ++ news ++ cur.toList.drop (o + sLen * i.size + news.length)) = splice cur.toList (o + sLen * i.size) news:=rfl
 rw [hsp] at hst
 simp [Builtin.append_,run_underlying ht,sizeOf,typeInfo,hi,Builtin.lenOf,hroom,hf,add_mk,hst]
def unC (x : AV) : AV := match x with
 | .slc i g o l _ => .sl i g o l
 | x=>x
theorem unC_rep {E : Env} {x : AV} {v : Value} (h : Rep E x v) : Rep E (unC x) v := by
 unfold unC
 split
 · simp only [Rep] at h ⊢
   obtain ⟨blk,a,len',cap',h1,h2,rfl,h3, -⟩:=h
   refine ⟨blk,a,len',cap',h1,h2,rfl,fun hg=>?_⟩
   obtain ⟨k1,k2,rfl,k4⟩:=h3 hg
   exact ⟨k1,k2,k4⟩
 · exact h
def appendCA (P : Program) (dst : Nat) (t t' : TypeId) (s x : AV) : AP AV :=
 match P.underlying t,s with
 | some (.slice elem), .slc id g off len cap=>match P.info? elem with
   | some i =>
     if t = t' ∧ 0 < i.size then
       rowsA i.size (unC x) fun news => .get id fun b =>
         if b.gen = g ∧ b.kind = 2 ∧ b.elem = elem ∧ b.size = i.size ∧ b.inl = true ∧ off + len ≤ b.rows.length ∧ len + news.length ≤ cap then
           .put id { b with rows:=splice b.rows (off + len) news } (.ret (.slc id g off (len + news.length) cap))
         else if b.gen = g ∧ b.elem = elem ∧ b.size = i.size ∧ b.inl = true ∧ off + len ≤ b.rows.length ∧ cap < len + news.length ∧ (i.zero.map fun z=>z.cells.size) = some i.size ∧ (len + news.length) * i.bytes ≤ 140737488355328 ∧ len + news.length ≤ maxLen then
           .get (newId dst) fun old => .put (newId dst) { gen:=old.gen + 1,kind:=2,elem,size:=i.size,inl:=true,rows:=(b.rows.drop off).take len ++ news } (.ret (.sl (newId dst) (old.gen + 1) 0 (len + news.length)))
         else .fail
     else .fail
   | none => .fail
 | _,_ => .fail
theorem appendC_snd {P : Program} {E : Env} {H : NL ABlk} (hH : E.H = lk H) (hr : HR E) {dst : Nat} {t t' ty : TypeId} {s x : AV} {vs vx : Value} (hs : Rep E s vs) (hx : Rep E x vx) :
   Snd P E H (appendCA P dst t t' s x) (Builtin.append_ #[t,t'] ty #[vs,vx]):=by
 unfold appendCA
 split
 · rename_i elem id g off len cap hu
   split
   · rename_i i hi
     split
     · rename_i hc
       obtain ⟨rfl,hsz⟩:=hc
       refine rowsA_snd hH hr (unC_rep hx) fun news hl src=>?_
       have hs':=hs
       simp only [Rep] at hs
       obtain ⟨blk,oa,len',cap',hb,hle,rfl,hg, -⟩:=hs
       refine Snd.get (by rw [← hH]; exact hb) ?_
       split
       · rename_i hc
         obtain ⟨hg1,hk,rfl,hs1,hinl,hoff,hroom⟩:=hc
         obtain ⟨_,rfl,rfl,h1,h2,h3⟩:=hg hg1
         obtain ⟨C,hC,hcs,hsz',hlen,hrl,hcell⟩:=hr.cells hb (.inr hk)
         rcases Nat.eq_zero_or_pos news.length with hm | hm
         · obtain ⟨oa',c',hv⟩:=src.val
           rw [hm] at hv
           have hn : news = []:=List.eq_nil_of_length_eq_zero hm
           subst hn
           have hsame : ({ blk with rows:=splice blk.rows (off + len') [] } : ABlk) = blk:=by
             have : splice blk.rows (off + len') [] = blk.rows:=by simp [splice]
             rw [this]
           rw [hsame]
           refine Snd.put_ret E (.slice oa len' cap') ?_ ?_ hr (Step.refl E) (by simpa using hs')
           · rw [hv]; exact run_append_zero hu hi h1
           · rw [hH]; funext k
             by_cases e : id = k
             · subst e; simp only [upd_same]; rw [← hH]; exact hb
             · simp only [upd_other _ _ _ e]
         · obtain ⟨a,c,nv,hv,n1,n2,n3,n4⟩:=src.cells hm
           obtain ⟨rfl,h4⟩:=h3 (by omega)
           have hcp : 0 < E.cs id:=by have : 0 < (off + cap') * blk.size:=Nat.mul_pos (by omega) hsz'; omega
           have hfit : off * blk.size + len' * i.size + nv.length ≤ C.size:=by
             rw [n1,hs1, ← Nat.add_mul, ← Nat.add_mul,hcs]
             have hq : off + len' + news.length ≤ off + cap':=by omega
             refine Nat.le_trans (Nat.mul_le_mul_right _ hq) (by rw [← hs1]; exact h4)
           have hrun:=run_append_roomAt (P:=P) E.w t ty blk.elem i hu hi (E.φ id) (off * blk.size) len' cap' C (hC hcp) a news.length c nv n1 n2 n3 hroom hfit
           have hpos : off * blk.size + len' * i.size = (off + len') * blk.size:=by rw [hs1,Nat.add_mul]
           rw [hpos] at hrun hfit
           have hfit' : (off + len') * blk.size + nv.length ≤ C.toList.length:=by simpa using hfit
           obtain ⟨q1,q2⟩:=hr.write (blk':={ blk with rows:=splice blk.rows (off + len') news }) (C:=(splice C.toList ((off + len') * blk.size) nv).toArray) (w':=E.w.setRow (E.φ id) (splice C.toList ((off + len') * blk.size) nv).toArray)
             hb hk hcp ⟨by simp,rfl,rfl,rfl⟩ (fun b hne=>setRow_other _ _ _ _ hne) (setRow_heap _ _ _ _ _ _ (hC hcp)) (by rw [List.size_toArray,splice_length hfit',Array.length_toList,hcs]) hk (Nat.le_refl _) rfl rfl
             (by rw [List.size_toArray,splice_length hfit',Array.length_toList]
                 show (splice blk.rows (off + len') news).length * blk.size ≤ C.size
                 rw [splice_length' hoff]
                 rcases Nat.le_total blk.rows.length (off + len' + news.length) with q | q
                 · rw [Nat.max_eq_right q,hcs]
                   exact Nat.le_trans (Nat.mul_le_mul_right _ (by omega)) h4
                 · rw [Nat.max_eq_left q]; exact hlen)
             (fun r row h=>by
               rw [splice_get' hoff] at h
               split at h
               · exact hrl r row h
               · split at h
                 · rw [hs1]; exact hl _ row h
                 · exact hrl r row h)
             (fun r row j x h hx=>by
               rw [List.getElem?_toArray,splice_get hfit',n1]
               rw [splice_get' hoff] at h
               split at h
               · rename_i hr1
                 obtain ⟨u,p1,p2,p3⟩:=hcell r row j x h hx
                 have hj : j < blk.size:=by rw [← hrl r row h]; exact (List.getElem?_eq_some_iff.1 hx).1
                 rw [if_pos (mul_lt_block hr1 hj)]
                 exact ⟨u,by simpa using p1,p2,p3⟩
               · rename_i hr1
                 split at h
                 · rename_i hr2
                   obtain ⟨u,p1,p3⟩:=n4 _ row j x h hx
                   have hj : j < i.size:=by rw [← hl _ row h]; exact (List.getElem?_eq_some_iff.1 hx).1
                   have e1 : r * blk.size = (r - (off + len')) * i.size + (off + len') * blk.size:=by rw [← hs1, ← Nat.add_mul]; congr 1; omega
                   have e2 : (r - (off + len')) * i.size + j < news.length * i.size:=mul_lt_block (by omega) hj
                   rw [if_neg (by omega),if_pos (by omega)]
                   refine ⟨u, ?_,n3 u (List.mem_of_getElem? p1), ?_⟩
                   · rw [← p1]; congr 1; omega
                   · rw [hinl]; exact p3
                 · rename_i hr2
                   obtain ⟨u,p1,p2,p3⟩:=hcell r row j x h hx
                   have e1 : (off + len' + news.length) * blk.size ≤ r * blk.size:=Nat.mul_le_mul_right _ (by omega)
                   rw [Nat.add_mul] at e1
                   rw [if_neg (by omega),if_neg (by rw [← hs1]; omega)]
                   exact ⟨u,by simpa using p1,p2,p3⟩)
           refine Snd.put_ret _ (.slice (some ⟨E.φ id,off * blk.size,none⟩) (len' + news.length) cap') ?_ (by rw [hH]) q1 q2 ?_
           · rw [hv]; exact hrun
           · simp only [Rep,upd_same]
             exact ⟨_,_,_,_,rfl,Nat.le_of_eq hg1.symm,rfl,fun _=>⟨.inr hk,rfl,rfl,hroom,h2,fun _=>⟨rfl,h4⟩⟩,rfl,rfl,hroom,h2⟩
       · split
         · rename_i _ hc
           obtain ⟨hg1,rfl,hs1,hinl,hoff,hroom,hz,hb1,hb2⟩:=hc
           obtain ⟨hk,rfl,rfl,h1,h2,h3⟩:=hg hg1
           obtain ⟨z,hz1,hz2⟩ : ∃ z,i.zero = some z ∧ z.cells.size = i.size:=by
             cases hzz : i.zero with
             | none=>simp [hzz] at hz
             | some z=>simp [hzz] at hz; exact ⟨z,rfl,hz⟩
           have zlen : ∀ k,(Builtin.zeroCells z.cells k).toList.length = k * i.size:=fun k=>by rw [Array.length_toList,size_zeroCells,hz2]
           obtain ⟨C,hC,hcs,hsz',hlen,hrl,hcell⟩:=hr.cells hb hk
           have hm : 0 < news.length:=by omega
           obtain ⟨a,c,nv,hv,n1,n2,n3,n4⟩:=src.cells hm
           refine Snd.get' ?_
           generalize hgen : ((lk H (newId dst)).getD {}).gen + 1 = g'
           have hg' : ∀ old,E.H (newId dst) = some old → old.gen < g':=fun old ho=>by rw [hH] at ho; simp [ho] at hgen; omega
           have hrl' : ∀ (r : Nat) (row : List AV),((blk.rows.drop off).take len')[r]? = some row → blk.rows[off + r]? = some row:=fun r row h=>by
             rw [List.getElem?_take] at h
             split at h
             · rwa [List.getElem?_drop] at h
             · cases h
           have hll : ((blk.rows.drop off).take len').length = len':=by rw [List.length_take,List.length_drop]; omega
           have hall : ∀ (r : Nat) (row : List AV),((blk.rows.drop off).take len' ++ news)[r]? = some row → row.length = i.size:=fun r row h=>by
             rw [List.getElem?_append] at h
             split at h
             · rw [← hs1]; exact hrl _ row (hrl' r row h)
             · exact hl _ row h
           have hge:=grownCap_ge E.w (len' + news.length) cap' blk.elem
           have hcm:=grownCap_le_maxLen E.w (len' + news.length) cap' blk.elem hb2
           have holds : ∃ ov : List Value,ov.length = len' * i.size ∧ (0 < cap' → ∀ (j : Nat) (u : Value),ov[j]? = some u → E.w.cell? ((⟨E.φ id,off * blk.size,none⟩ : Addr).add j) = some u) ∧
               ∀ (r : Nat) (row : List AV) (j : Nat) (x : AV),((blk.rows.drop off).take len')[r]? = some row → row[j]? = some x → ∃ u,ov[r * i.size + j]? = some u ∧ u.oneCell' = true ∧ RepI E.w E.imm x u:=by
             refine ⟨(C.toList.drop (off * i.size)).take (len' * i.size), ?_,fun hp j u hu'=>?_,fun r row j x h1' h2'=>?_⟩
             · rw [List.length_take,List.length_drop,Array.length_toList]
               have e1 : (off + len') * i.size ≤ blk.rows.length * blk.size:=by rw [hs1]; exact Nat.mul_le_mul_right _ hoff
               rw [Nat.add_mul] at e1
               omega
             · obtain ⟨_,h4⟩:=h3 hp
               have hcp : 0 < E.cs id:=by have : 0 < (off + cap') * blk.size:=Nat.mul_pos (by omega) hsz'; omega
               rw [add_mk,cell_of_heap (hC hcp),hs1]
               rw [List.getElem?_take] at hu'
               split at hu'
               · rw [List.getElem?_drop] at hu'; simpa using hu'
               · cases hu'
             · have h1'':=hrl' r row h1'
               obtain ⟨u,c1,c2,c3⟩:=hcell _ row j x h1'' h2'
               rw [hinl] at c3
               have hrlt : r < len':=by rw [← hll]; exact (List.getElem?_eq_some_iff.1 h1').1
               have hj : j < i.size:=by rw [← hs1, ← hrl _ row h1'']; exact (List.getElem?_eq_some_iff.1 h2').1
               refine ⟨u, ?_,c2,c3⟩
               rw [List.getElem?_take,if_pos (mul_lt_block hrlt hj),List.getElem?_drop]
               have e : off * i.size + (r * i.size + j) = (off + r) * blk.size + j:=by rw [hs1,Nat.add_mul]; omega
               rw [e]; simpa using c1
           obtain ⟨ov,o1,o2,o3⟩:=holds
           have both : ∀ (r : Nat) (row : List AV) (j : Nat) (x : AV),((blk.rows.drop off).take len' ++ news)[r]? = some row → row[j]? = some x → ∃ u,(ov ++ nv)[r * i.size + j]? = some u ∧ u.oneCell' = true ∧ RepI E.w E.imm x u:=by
             intro r row j x h1 h2
             rw [List.getElem?_append] at h1
             split at h1
             · obtain ⟨u,p1,p2,p3⟩:=o3 r row j x h1 h2
               exact ⟨u,by rw [List.getElem?_append_left (List.getElem?_eq_some_iff.1 p1).1]; exact p1,p2,p3⟩
             · rename_i hge
               obtain ⟨u,p1,p3⟩:=n4 _ row j x h1 h2
               refine ⟨u, ?_,n3 u (List.mem_of_getElem? p1),p3⟩
               rw [hll] at p1 hge
               have hr2 : r * i.size = (r - len') * i.size + len' * i.size:=by
                 rw [← Nat.add_mul]; congr 1; omega
               rw [List.getElem?_append_right (by rw [o1,hr2]; omega),o1, ← p1]
               congr 1; omega
           rcases Nat.eq_zero_or_pos cap' with hc0 | hc0
           · have hl0 : len' = 0:=by omega
             subst hc0; subst hl0
             have ho0 : ov = []:=List.eq_nil_of_length_eq_zero (by simpa using o1)
             subst ho0
             obtain ⟨E',e1,e2,e3,e4,e5⟩:=grown_env hr (id:=newId dst) (g:=g') (elem:=blk.elem) (size:=i.size) (rows:=(blk.rows.drop off).take 0 ++ news) (olds:=[] ++ nv) (zs:=(Builtin.zeroCells z.cells (grownCap E.w (0 + news.length) 0 blk.elem - (0 + news.length))).toList)
               (w':=E.w.drew.alloc (.cells (nv.toArray ++ Builtin.zeroCells z.cells (grownCap E.w (0 + news.length) 0 blk.elem - (0 + news.length))) blk.elem)) (need:=0 + news.length) (cap:=grownCap E.w (0 + news.length) 0 blk.elem)
               (by congr 2; apply Array.ext'; simp) hsz hg' (by simp) (by simp [n1]) (zlen _) hge hcm hall both
             refine Snd.put_ret E' _ ?_ (by rw [e2,hH]) e3 e4 e5
             rw [hv,e1]
             cases oa with
             | none =>
               have hrun:=run_append_nil (P:=P) E.w t ty blk.elem i z hu hi hz1 a news.length c nv n1 n2 hm (by simp only [maxLen] at hb2; omega) (by simp only [Nat.zero_add] at hb1; omega)
               simpa using hrun
             | some ad =>
               have hrun:=run_append_grow (P:=P) E.w t ty blk.elem i z hu hi hz1 ad 0 0 [] (by simp) (by simp) a news.length c nv n1 n2 (by omega) (by simp only [maxLen] at hb2; omega) (growslice_fits (by omega) hb1)
               simpa using hrun
           · obtain ⟨rfl,h4⟩:=h3 hc0
             obtain ⟨E',e1,e2,e3,e4,e5⟩:=grown_env hr (id:=newId dst) (g:=g') (elem:=blk.elem) (size:=i.size) (rows:=(blk.rows.drop off).take len' ++ news) (olds:=ov ++ nv) (zs:=(Builtin.zeroCells z.cells (grownCap E.w (len' + news.length) cap' blk.elem - (len' + news.length))).toList)
               (w':=E.w.drew.alloc (.cells (ov.toArray ++ nv.toArray ++ Builtin.zeroCells z.cells (grownCap E.w (len' + news.length) cap' blk.elem - (len' + news.length))) blk.elem)) (need:=len' + news.length) (cap:=grownCap E.w (len' + news.length) cap' blk.elem)
               (by congr 2; apply Array.ext'; simp) hsz hg' (by rw [List.length_append,hll]) (by rw [List.length_append,o1,n1,Nat.add_mul]) (zlen _) hge hcm hall both
             refine Snd.put_ret E' _ ?_ (by rw [e2,hH]) e3 e4 e5
             rw [hv,e1]
             have hrun:=run_append_grow (P:=P) E.w t ty blk.elem i z hu hi hz1 ⟨E.φ id,off * blk.size,none⟩ len' cap' ov o1 (o2 hc0) a news.length c nv n1 n2 (by omega) (by simp only [maxLen] at hb2; omega) (growslice_fits (by omega) hb1)
             simpa using hrun
         · exact Snd.fail
     · exact Snd.fail
   · exact Snd.fail
 · exact Snd.fail
def lenXA (P : Program) (t : TypeId) (x : AV) : AP AV := match x with
 | .slc i g o l c=>lenCA P t (.slc i g o l c)
 | x=>lenA P t x
theorem lenX_snd {P : Program} {E : Env} {H : NL ABlk} (hH : E.H = lk H) (hr : HR E) {t ty : TypeId} {x : AV} {v : Value} (hx : Rep E x v) : Snd P E H (lenXA P t x) (Builtin.len_ #[t] ty #[v]) := by
 unfold lenXA
 split
 · exact lenC_snd hH hr hx
 · exact len_snd hH hr hx
def appendSA (P : Program) (dst : Nat) (t t' : TypeId) (s x : AV) : AP AV := match s with
 | .slc i g o l c=>match x with
   | .int k n=>appendZA P dst t t' (.slc i g o l c) (.int k n)
   | x=>appendCA P dst t t' (.slc i g o l c) x
 | s=>appendA P dst t t' s x
theorem appendS_snd {P : Program} {E : Env} {H : NL ABlk} (hH : E.H = lk H) (hr : HR E) {dst : Nat} {t t' ty : TypeId} {s x : AV} {vs vx : Value} (hs : Rep E s vs) (hx : Rep E x vx) :
   Snd P E H (appendSA P dst t t' s x) (Builtin.append_ #[t,t'] ty #[vs,vx]):=by
 unfold appendSA
 split
 · split
   · exact appendZ_snd hH hr hs hx
   · exact appendC_snd hH hr hs hx
 · exact append_snd hH hr hs hx
def clearTo (id g off len size : Nat) (z : List AV) : AP AV := .get id fun b =>
 if b.gen = g ∧ b.kind = 2 ∧ b.size = size ∧ z.length = size ∧ (z.all fun x=>x.cellish && x.isInl) = true ∧ off ≤ b.rows.length then
   .put id { b with rows:=splice b.rows off (List.replicate len z) } (.ret .any)
 else .fail
def clearA (P : Program) (t : TypeId) (d : AV) : AP AV := match P.underlying t with
 | some (.slice elem)=>match szOf P elem,(zeroA P elem).bind AV.cellsOf with
   | some size,some z=>match d with
     | .sl id g off len=>clearTo id g off len size z
     | .slc id g off len _=>clearTo id g off len size z
     | _ => .fail
   | _,_ => .fail
 | _ => .fail
theorem clearTo_snd {P : Program} {E : Env} {H : NL ABlk} (hH : E.H = lk H) (hr : HR E) {t ty elem : TypeId} (hu : P.underlying t = some (.slice elem)) {size : Nat} {z : List AV} (hzc : (zeroA P elem).bind AV.cellsOf = some z) {id g off len : Nat} {vd : Value}
   (hd : ∀ blk,E.H id = some blk → blk.gen = g → Dst E blk id off len vd) (hb0 : ∃ blk,E.H id = some blk) :
   Snd P E H (clearTo id g off len size z) (Builtin.clear_ #[t] ty #[vd]):=by
 unfold clearTo
 obtain ⟨blk,hb⟩:=hb0
 refine Snd.get (by rw [← hH]; exact hb) ?_
 split
 · rename_i hc
   obtain ⟨hg,hk,hs,hzl,hall,hoff⟩:=hc
   subst hs
   obtain ⟨_,a,cap,rfl,h1,h2,h3⟩:=hd blk hb hg
   obtain ⟨C,hC,hcs,hsz,hlen,hrl,hcell⟩:=hr.cells hb (.inr hk)
   obtain ⟨zx,hzx,hzc⟩:=Option.bind_eq_some_iff.1 hzc
   obtain ⟨zv,hzrun,hzrep⟩:=zeroA_run hzx
   have hzz:=cellsOf_rep hzc (hzrep E)
   have hzs : zv.cells.size = blk.size:=by have:=hzz.length; simp at this; omega
   have hone0 : ∀ x ∈ z,x.cellish = true ∧ x.isInl = true:=fun x hx=>by simpa using List.all_eq_true.1 hall x hx
   rcases Nat.eq_zero_or_pos len with hm | hm
   · subst hm
     have hsame : ({ blk with rows:=splice blk.rows off (List.replicate 0 z) } : ABlk) = blk:=by
       have : splice blk.rows off (List.replicate 0 z) = blk.rows:=by simp [splice]
       rw [this]
     rw [hsame]
     refine Snd.put_ret E (.tuple #[]) ?_ ?_ hr (Step.refl E) trivial
     · cases a <;> simp [Builtin.clear_,run_underlying' hu]
     · rw [hH]; funext k
       by_cases e : id = k
       · subst e; simp only [upd_same]; rw [← hH]; exact hb
       · simp only [upd_other _ _ _ e]
   · obtain ⟨rfl,h4⟩:=h3 (by omega)
     have hcp : 0 < E.cs id:=by have : 0 < (off + cap) * blk.size:=Nat.mul_pos (by omega) hsz; omega
     have zlen : (Builtin.zeroCells zv.cells len).toList.length = len * blk.size:=by rw [Array.length_toList,size_zeroCells,hzs]
     have hzer:=zeros_rep hzz (by omega) (len * zv.cells.size)
     have hget : ∀ (r : Nat) (j : Nat) (x : AV),r < len → z[j]? = some x → ∃ u,(Builtin.zeroCells zv.cells len).toList[r * blk.size + j]? = some u ∧ Rep E x u:=fun r j x hr' hx=>by
       have hj : j < z.length:=(List.getElem?_eq_some_iff.1 hx).1
       have hlt' : r * blk.size + j < len * zv.cells.size:=by rw [hzs]; exact mul_lt_block hr' (by omega)
       refine hzer.get ?_
       simp only [zerosA,List.getElem?_map,List.getElem?_range hlt',Option.map_some]
       rw [hzl,Nat.add_comm,Nat.add_mul_mod_self_right,Nat.mod_eq_of_lt (by omega),List.getD_eq_getElem?_getD,hx]; rfl
     have hone : ∀ u ∈ (Builtin.zeroCells zv.cells len).toList,u.oneCell' = true:=fun u hu=>by
       obtain ⟨i,hi,he⟩:=List.mem_iff_getElem.1 hu
       rw [zlen] at hi
       have hj : i % blk.size < z.length:=by rw [hzl]; exact Nat.mod_lt _ hsz
       obtain ⟨w,hw,hxw⟩:=hget (i / blk.size) (i % blk.size) _ (Nat.div_lt_of_lt_mul (by rw [Nat.mul_comm]; exact hi)) (List.getElem?_eq_getElem hj)
       have e : i / blk.size * blk.size + i % blk.size = i:=by rw [Nat.mul_comm]; exact Nat.div_add_mod i blk.size
       rw [e,List.getElem?_eq_getElem (by rw [zlen]; exact hi),he] at hw
       cases hw
       exact oneCell_of hxw (hone0 _ (List.getElem_mem hj)).1
     have hfit : off * blk.size + (Builtin.zeroCells zv.cells len).toList.length ≤ C.size:=by
       rw [zlen, ← Nat.add_mul,hcs]
       exact Nat.le_trans (Nat.mul_le_mul_right _ (by omega)) h4
     have hst:=run_storeCells_at P (E.φ id) (off * blk.size) blk.elem (Builtin.zeroCells zv.cells len).toList 0 C E.w (hC hcp) (by simpa using hfit) hone
     simp only [Nat.add_zero] at hst
     have hsp : (C.toList.take (off * blk.size) ++ (Builtin.zeroCells zv.cells len).toList ++ C.toList.drop (off * blk.size + (Builtin.zeroCells zv.cells len).toList.length)) = splice C.toList (off * blk.size) (Builtin.zeroCells zv.cells len).toList:=rfl
     rw [hsp] at hst
     have hfit' : off * blk.size + (Builtin.zeroCells zv.cells len).toList.length ≤ C.toList.length:=by simpa using hfit
     have hvl : (List.replicate len z).length = len:=List.length_replicate
     obtain ⟨q1,q2⟩:=hr.write (blk':={ blk with rows:=splice blk.rows off (List.replicate len z) }) (C:=(splice C.toList (off * blk.size) (Builtin.zeroCells zv.cells len).toList).toArray) (w':=E.w.setRow (E.φ id) (splice C.toList (off * blk.size) (Builtin.zeroCells zv.cells len).toList).toArray)
       hb hk hcp ⟨by simp,rfl,rfl,rfl⟩ (fun b hne=>setRow_other _ _ _ _ hne) (setRow_heap _ _ _ _ _ _ (hC hcp)) (by rw [List.size_toArray,splice_length hfit',Array.length_toList,hcs]) hk (Nat.le_refl _) rfl rfl
       (by have esz : (splice C.toList (off * blk.size) (Builtin.zeroCells zv.cells len).toList).toArray.size = C.size:=by rw [List.size_toArray,splice_length hfit',Array.length_toList]
           rw [esz]
           show (splice blk.rows off (List.replicate len z)).length * blk.size ≤ C.size
           rw [splice_length' hoff,hvl]
           rcases Nat.le_total blk.rows.length (off + len) with q | q
           · rw [Nat.max_eq_right q,hcs]
             exact Nat.le_trans (Nat.mul_le_mul_right _ (by omega)) h4
           · rw [Nat.max_eq_left q]; exact hlen)
       (fun r row h=>by
         rw [splice_get' hoff,hvl] at h
         split at h
         · exact hrl r row h
         · split at h
           · rw [List.getElem?_replicate] at h
             split at h
             · cases h; exact hzl
             · cases h
           · exact hrl r row h)
       (fun r row j x h hx=>by
         rw [List.getElem?_toArray,splice_get hfit',zlen]
         rw [splice_get' hoff,hvl] at h
         split at h
         · rename_i hr1
           obtain ⟨u,p1,p2,p3⟩:=hcell r row j x h hx
           have hj : j < blk.size:=by rw [← hrl r row h]; exact (List.getElem?_eq_some_iff.1 hx).1
           rw [if_pos (mul_lt_block hr1 hj)]
           exact ⟨u,by simpa using p1,p2,p3⟩
         · rename_i hr1
           split at h
           · rename_i hr2
             rw [List.getElem?_replicate] at h
             split at h
             · cases h
               have hj : j < blk.size:=by rw [← hzl]; exact (List.getElem?_eq_some_iff.1 hx).1
               obtain ⟨u,p1,p3⟩:=hget (r - off) j x (by omega) hx
               have e1 : r * blk.size = (r - off) * blk.size + off * blk.size:=by rw [← Nat.add_mul]; congr 1; omega
               have e2 : (r - off) * blk.size + j < len * blk.size:=mul_lt_block (by omega) hj
               rw [if_neg (by omega),if_pos (by omega)]
               have hx2:=hone0 x (List.mem_of_getElem? hx)
               refine ⟨u,by rw [← p1]; congr 1; omega,oneCell_of p3 hx2.1, ?_⟩
               cases hin : blk.inl
               · exact p3
               · exact isInl_rep p3 hx2.2
             · cases h
           · rename_i hr2
             obtain ⟨u,p1,p2,p3⟩:=hcell r row j x h hx
             have e1 : (off + len) * blk.size ≤ r * blk.size:=Nat.mul_le_mul_right _ (by omega)
             rw [Nat.add_mul] at e1
             rw [if_neg (by omega),if_neg (by omega)]
             exact ⟨u,by simpa using p1,p2,p3⟩)
     refine Snd.put_ret _ (.tuple #[]) ?_ (by rw [hH]) q1 q2 trivial
     cases len with
     | zero=>omega
     | succ n=>simp [Builtin.clear_,run_underlying' hu,hzrun,hst]
 · exact Snd.fail
theorem clear_snd {P : Program} {E : Env} {H : NL ABlk} (hH : E.H = lk H) (hr : HR E) {t ty : TypeId} {d : AV} {vd : Value} (hd : Rep E d vd) : Snd P E H (clearA P t d) (Builtin.clear_ #[t] ty #[vd]) := by
 unfold clearA
 split
 · rename_i elem hu
   split
   · rename_i size z hz hzc
     split
     · rename_i id g off len
       refine clearTo_snd hH hr hu hzc (fun blk hb hg=>dst_sl hd hb hg) ?_
       simp only [Rep] at hd
       obtain ⟨b,_,_,_,h,_⟩:=hd
       exact ⟨b,h⟩
     · rename_i id g off len c
       refine clearTo_snd hH hr hu hzc (fun blk hb hg=>dst_slc hd hb hg) ?_
       simp only [Rep] at hd
       obtain ⟨b,_,_,_,h,_⟩:=hd
       exact ⟨b,h⟩
     · exact Snd.fail
   · exact Snd.fail
 · exact Snd.fail
end
end Go.Abs
namespace Go.Abs
open Go
section
def eqlA (P : Program) (op : BinOp) (t : TypeId) (x y : AV) : AP AV :=
 match op with
 | .eql=>match x,y with
   | .bool a, .bool b=>match P.underlying t with
     | some .bool => .ret (.bool (a == b))
     | _ => .fail
   | .agg xs, .agg ys=>if P.eqGuardType P.depth t = false then match eqV P 9 t (.agg xs) (.agg ys) with
       | some b => .ret (.bool b)
       | none => .fail
     else .fail
   | x,y=>nilA P false t x y
 | .neq=>match x,y with
   | .bool a, .bool b=>match P.underlying t with
     | some .bool => .ret (.bool (!(a == b)))
     | _ => .fail
   | .agg xs, .agg ys=>if P.eqGuardType P.depth t = false then match eqV P 9 t (.agg xs) (.agg ys) with
       | some b => .ret (.bool (!b))
       | none => .fail
     else .fail
   | x,y=>nilA P true t x y
 | _ => .fail
theorem eql_snd {P : Program} {E : Env} {H : NL ABlk} (hH : E.H = lk H) (hr : HR E) {op : BinOp} {t : TypeId} {ox oy : Operand} {x y : AV} {v u : Value} (hx : Rep E x v) (hy : Rep E y u) :
   Snd P E H (eqlA P op t x y) (do eqGuard op t ox oy v u; binOp op t v u):=by
 unfold eqlA
 split
 · split
   · rename_i a b
     simp only [Rep] at hx hy; subst hx; subst hy
     split
     · rename_i hu
       refine Snd.retBool hH hr ?_
       have:=run_equalIn_bool' (P:=P) E.w 9999 t a b hu
       simp [eqGuard_at_bool,binOp,Op.equal,Op.maxDepth,this]
     · exact Snd.fail
   · rename_i xs ys
     split
     · rename_i hgd
       cases he : eqV P 9 t (.agg xs) (.agg ys) with
       | none=>exact Snd.fail
       | some b =>
         have hrun:=eqV_run (P:=P) (E:=E) (d:=9) 10000 (by omega) t _ _ v u b he hx hy E.w
         simp only [Rep] at hx hy
         obtain ⟨vs,rfl,_⟩:=hx
         obtain ⟨us,rfl,_⟩:=hy
         refine Snd.retBool hH hr ?_
         simp only [Sem.run_bind,run_eqGuard_agg E.w .eql t ox oy vs us hgd,Result.andThen_ok,run_eql_struct,hrun]
     · exact Snd.fail
   · exact (nil_snd hH hr hx hy).1
 · split
   · rename_i a b
     simp only [Rep] at hx hy; subst hx; subst hy
     split
     · rename_i hu
       refine Snd.retBool hH hr ?_
       have:=run_equalIn_bool' (P:=P) E.w 9999 t a b hu
       simp [eqGuard_at_bool,binOp,Op.equal,Op.maxDepth,this]
     · exact Snd.fail
   · rename_i xs ys
     split
     · rename_i hgd
       cases he : eqV P 9 t (.agg xs) (.agg ys) with
       | none=>exact Snd.fail
       | some b =>
         have hrun:=eqV_run (P:=P) (E:=E) (d:=9) 10000 (by omega) t _ _ v u b he hx hy E.w
         simp only [Rep] at hx hy
         obtain ⟨vs,rfl,_⟩:=hx
         obtain ⟨us,rfl,_⟩:=hy
         refine Snd.retBool hH hr ?_
         simp only [Sem.run_bind,run_eqGuard_agg E.w .neq t ox oy vs us hgd,Result.andThen_ok,run_neq_struct,hrun]
     · exact Snd.fail
   · exact (nil_snd hH hr hx hy).2
 · exact Snd.fail
def binA (P : Program) (op : BinOp) (t : TypeId) (x y : AV) : AP AV :=
 match x,y with
 | .int _ _, .int _ _=>binOpA op x y
 | .str _, .str _=>binOpA op x y
 | _,_=>eqlA P op t x y
theorem bin_snd {P : Program} {E : Env} {H : NL ABlk} (hH : E.H = lk H) (hr : HR E) {op : BinOp} {t : TypeId} {ox oy : Operand} {x y : AV} {v u : Value} (hx : Rep E x v) (hy : Rep E y u) :
   Snd P E H (binA P op t x y) (do eqGuard op t ox oy v u; binOp op t v u):=by
 unfold binA
 split
 · exact binOp_snd hH hr hx hy
 · exact binOp_snd hH hr hx hy
 · exact eql_snd hH hr hx hy
def pickA (c a b : AV) : AP AV :=
 match c with
 | .bool true => .ret a
 | .bool false => .ret b
 | _ => .fail
def nilCheckA (x : AV) : AP AV :=
 match x with
 | .ptr _ _ _ _ | .cptr _ => .ret x
 | .fn (.func _) _ _ => .ret x
 | _ => .fail
def mmA (mx : Bool) (xs : List AV) : AP AV :=
 match xs with
 | [.int k x, .int _ y] => .ret (.int k (if mx then (if y > x then y else x) else (if y < x then y else x)))
 | _ => .fail
theorem mm_snd {P : Program} {E : Env} {H : NL ABlk} (hH : E.H = lk H) (hr : HR E) {mx : Bool} {ts : Array TypeId} {ty : TypeId} {xs : List AV} {vs : Array Value} (hx : RepL E xs vs.toList) :
   Snd P E H (mmA mx xs) (if mx then Builtin.max_ ts ty vs else Builtin.min_ ts ty vs):=by
 unfold mmA
 split
 · rename_i k x k' y
   simp only [RepL,Rep] at hx
   obtain ⟨_,_,hv,rfl,_,_,rfl,rfl,rfl⟩:=hx
   have ea : vs = #[.int k x, .int k' y]:=Array.ext' hv
   refine Snd.ret hH hr (v := .int k (if mx then (if y > x then y else x) else (if y < x then y else x))) ?_ (by simp only [Rep])
   subst ea
   cases mx <;> simp [Builtin.max_,Builtin.min_,Builtin.max2,Builtin.min2]
 · exact Snd.fail
def sliceArrA (P : Program) (t : TypeId) (x : AV) (lo hi : Option AV) : AP AV :=
 match P.underlying t,x with
 | some (.array n elem), .ptr id g r o=>match bndA 0 lo,bndA n hi,szOf P elem with
   | some l,some h,some s=>if l < h ∧ h ≤ n then .ret (.psl id g r (o + l * s) (h - l)) else .fail
   | _,_,_ => .fail
 | _, .slc i g o l c=>sliceCA P t (.slc i g o l c) lo hi
 | _,_=>sliceA P t x lo hi
theorem sliceArr_snd {P : Program} {E : Env} {H : NL ABlk} (hH : E.H = lk H) (hr : HR E) {t : TypeId} {x : AV} {v : Value} {lo hi : Option AV} {vlo vhi : Option Value} (hx : Rep E x v) (h1 : RepO E lo vlo) (h2 : RepO E hi vhi) :
   Snd P E H (sliceArrA P t x lo hi) (Instr.sliceAt t v vlo vhi none):=by
 unfold sliceArrA
 split
 · rename_i n elem id g r o hu
   split
   · rename_i l h s e1 e2 e3
     split
     · rename_i hc
       obtain ⟨g1,g2⟩:=hc
       obtain ⟨a,rfl,hp⟩:=ptr_add (k:=l * s) hx
       have hb:=bounds_run (P:=P) (isSlice:=false) (len:=n) (cap:=n) h1 h2 e1 e2 (by omega) g2
       refine Snd.ret hH hr (v := .slice (some (a.add (l * s))) (h - l) (n - l)) ?_ ?_
       · have : ¬ (n = l):=by omega
         simp [Instr.sliceAt,run_underlying' hu,Instr.sureAddr,hb,run_sizeOf' e3,this]
       · simp only [Rep] at hp ⊢
         obtain ⟨blk,a',q1,q2,q3,q4⟩:=hp
         simp only [Value.pointer.injEq,Option.some.injEq] at q3
         exact ⟨blk,_,_,q1,q2,rfl,fun e=>by rw [q3]; exact q4 e⟩
     · exact Snd.fail
   · exact Snd.fail
 · exact sliceC_snd hH hr hx h1 h2
 · exact slice_snd hH hr hx h1 h2
def arrayAtA (P : Program) (t : TypeId) (x : AV) : AP AV :=
 match P.underlying t,x with
 | some (.array n _), .psl id g r o len=>if n ≤ len then .ret (.ptr id g r o) else .fail
 | _,_ => .fail
theorem arrayAt_snd {P : Program} {E : Env} {H : NL ABlk} (hH : E.H = lk H) (hr : HR E) {t : TypeId} {x : AV} {v : Value} (hx : Rep E x v) :
   Snd P E H (arrayAtA P t x) (Instr.arrayAt t v):=by
 unfold arrayAtA
 split
 · rename_i n elem id g r o len hu
   split
   · rename_i hn
     simp only [Rep] at hx
     obtain ⟨blk,a,cap,q1,q2,rfl,q4⟩:=hx
     refine Snd.ret hH hr (v := .pointer (some a)) ?_ ?_
     · have : ¬ len < n:=by omega
       simp [Instr.arrayAt,run_underlying' hu,this]
     · simp only [Rep]
       exact ⟨blk,a,q1,q2,rfl,q4⟩
   · exact Snd.fail
 · exact Snd.fail
def builtinA (P : Program) (dst : Nat) (b : Builtin) (ts : List TypeId) (xs : List AV) : AP AV :=
 match b with
 | .len=>match ts,xs with
   | [t],[x]=>lenXA P t x
   | _,_ => .fail
 | .append=>match ts,xs with
   | [t,t'],[s,x]=>appendSA P dst t t' s x
   | _,_ => .fail
 | .clear=>match ts,xs with
   | [t],[x]=>clearA P t x
   | _,_ => .fail
 | .cap=>match ts,xs with
   | [t],[x]=>capA P t x
   | _,_ => .fail
 | .copy=>match ts,xs with
   | [t,_],[d,s]=>copyA P t d s
   | _,_ => .fail
 | .min=>mmA false xs
 | .max=>mmA true xs
 | _ => .fail
def opA (P : Program) (ρ : Operand → AV) (dst : Nat) (op : Op) : AP AV :=
 match op with
 | .move x | .assign x => .ret (ρ x)
 | .pick c a b=>pickA (ρ c) (ρ a) (ρ b)
 | .alloc elem=>allocA P elem dst
 | .box elem x=>boxA elem dst (ρ x)
 | .build t parts=>buildA P t (parts.toList.map fun p=>(p.1, ρ p.2))
 | .buildSlice t len parts=>buildSliceA P dst t len (parts.toList.map fun p=>(p.1, ρ p.2))
 | .load t a=>loadA P t (ρ a)
 | .store t a x=>storeA P t (ρ a) (ρ x)
 | .nilCheck x=>nilCheckA (ρ x)
 | .binOp op xType x y _=>binA P op xType (ρ x) (ρ y)
 | .unOp op _ x=>unOpA op (ρ x)
 | .convert src dst x=>convertA P src dst (ρ x)
 | .makeFunc fn first captured => .ret (.fn fn (first.toList.map ρ) (captured.toList.map ρ))
 | .makeSlice t l c=>makeSliceA P dst t (ρ l) (ρ c)
 | .slice t x lo hi none=>sliceArrA P t (ρ x) (lo.map ρ) (hi.map ρ)
 | .slice t x lo hi (some m)=>slice3A P t (ρ x) (lo.map ρ) (hi.map ρ) (ρ m)
 | .fieldAddr s x f=>fieldAddrA P s f (ρ x)
 | .field t x f=>fieldA P t f (ρ x)
 | .indexAddr t x ix=>indexAddrA P t (ρ x) (ρ ix)
 | .index t x ix=>indexA P t (ρ x) (ρ ix)
 | .extract t ix=>extractA (ρ t) ix
 | .makeMap _ r=>makeMapA dst (r.map ρ)
 | .lookup t m x ok=>lookupA P t (ρ m) (ρ x) ok
 | .sliceToArrayPointer t x=>arrayAtA P t (ρ x)
 | .mapUpdate t m x v | .insert t m x v=>mapUpdateA P t (ρ m) (ρ x) (ρ v)
 | .mapEntry t m x=>mapEntryA P t (ρ m) (ρ x)
 | .entryStore _ m s v=>entryStoreA (ρ m) (ρ s) (ρ v)
 | .call c=>match c.callee with
   | .builtin b=>builtinA P dst b c.argTypes.toList (c.args.toList.map ρ)
   | _ => .fail
 | _ => .fail
def SndN (P : Program) (E : Env) (H : NL ABlk) (p : AP AV) (c : Sem Next) : Prop :=
 ∀ out,p.run H = some out → ∃ v E' n,c.run P E.w = .ok n E'.w ∧ (n = .value v ∨ n = .skip ∧ v = undef) ∧ E'.H = lk out.H ∧ HR E' ∧ Step E E' ∧ Rep E' out.val v ∧ out.as
theorem Snd.next {P : Program} {E : Env} {H : NL ABlk} {p : AP AV} {c : Sem Value} (h : Snd P E H p c) : SndN P E H p (do pure (.value (← c))) := fun out ho => by
 obtain ⟨v,E',h1,h2⟩:=h out ho
 exact ⟨v,E', .value v,by simp [h1], .inl rfl,h2⟩
theorem Snd.skip {P : Program} {E : Env} {H : NL ABlk} {p : AP AV} {c : Sem Unit} (h : Snd P E H p (do c; pure undef)) : SndN P E H p (do c; pure .skip) := fun out ho => by
 obtain ⟨v,E',h1,h2⟩:=h out ho
 simp only [Sem.run_bind,Sem.run_pure] at h1
 cases hc : c.run P E.w with
 | ok a w =>
   simp only [hc,Result.andThen_ok,Result.ok.injEq] at h1
   obtain ⟨rfl,rfl⟩:=h1
   exact ⟨undef,E', .skip,by simp [hc], .inr ⟨rfl,rfl⟩,h2⟩
 | halt x w=>simp [hc] at h1
theorem op_snd {P : Program} {E : Env} {H : NL ABlk} (hH : E.H = lk H) (hr : HR E) {ρA : Operand → AV} {ρ : Operand → Value} {o : Oper} {dst : Nat}
   (hρ : ∀ x,Rep E (ρA x) (ρ x)) : SndN P E H (opA P ρA dst o.op) (execOp ρ o):=by
 obtain ⟨d,op,type,pos,after,guard⟩:=o
 have parts : ∀ (ps : Array (Nat × Operand)) (k i : Nat) (x : AV),(ps.toList.map fun p=>(p.1, ρA p.2))[k]? = some (i,x) → ∃ v,(ps.map fun (p : Nat × Operand)=>(p.1, ρ p.2)).toList[k]? = some (i,v) ∧ Rep E x v:=by
   intro ps k i x h
   simp only [List.getElem?_map,Option.map_eq_some_iff] at h
   obtain ⟨p,hp,he⟩:=h
   simp only [Prod.mk.injEq] at he
   obtain ⟨rfl,rfl⟩:=he
   exact ⟨ρ p.2,by rw [Array.toList_map,List.getElem?_map,hp]; rfl,hρ _⟩
 have hopt : ∀ o : Option Operand,RepO E (o.map ρA) (o.map ρ):=by
   intro o; cases o with
   | none=>trivial
   | some x=>exact hρ x
 have fail : ∀ c,SndN P E H .fail c:=fun c out h=>by simp [AP.run] at h
 cases op with
 | move x=>exact Snd.next (c:=pure (ρ x)) (Snd.ret hH hr (v := ρ x) rfl (hρ x))
 | assign x=>exact Snd.next (c:=pure (ρ x)) (Snd.ret hH hr (v := ρ x) rfl (hρ x))
 | pick c a b =>
   simp only [opA,pickA]
   have hc:=hρ c
   split
   · rename_i e
     rw [e] at hc; simp only [Rep] at hc
     intro out ho
     simp only [AP.run,Option.some.injEq] at ho; subst ho
     exact ⟨ρ a,E, .value (ρ a),by simp [execOp,hc,asBool], .inl rfl,hH,hr,Step.refl E,hρ a,trivial⟩
   · rename_i e
     rw [e] at hc; simp only [Rep] at hc
     intro out ho
     simp only [AP.run,Option.some.injEq] at ho; subst ho
     exact ⟨ρ b,E, .value (ρ b),by simp [execOp,hc,asBool], .inl rfl,hH,hr,Step.refl E,hρ b,trivial⟩
   · exact fail _
 | alloc elem=>exact Snd.next (alloc_snd hH hr)
 | box elem x=>exact Snd.next (box_snd hH hr (hρ x))
 | build t ps=>exact Snd.next (build_snd hH hr (by simp) (parts ps))
 | buildSlice t len ps=>exact Snd.next (buildSlice_snd hH hr (by simp) (parts ps))
 | load t a=>exact Snd.next (load_snd hH hr (hρ a))
 | store t a x=>exact Snd.skip (store_snd hH hr (hρ a) (hρ x))
 | nilCheck x =>
   simp only [opA,nilCheckA]
   have hx:=hρ x
   split
   · rename_i e
     have hx':=hx
     rw [e] at hx'; simp only [Rep] at hx'
     obtain ⟨_,a,_,_,hv,_⟩:=hx'
     intro out ho
     simp only [AP.run,Option.some.injEq] at ho; subst ho
     exact ⟨ρ x,E, .value (ρ x),by simp [execOp,hv], .inl rfl,hH,hr,Step.refl E,hx,trivial⟩
   · rename_i e
     have hx':=hx
     rw [e] at hx'; simp only [Rep,RepI] at hx'
     obtain ⟨_,_,hv,_⟩:=hx'
     intro out ho
     simp only [AP.run,Option.some.injEq] at ho; subst ho
     exact ⟨ρ x,E, .value (ρ x),by simp [execOp,hv], .inl rfl,hH,hr,Step.refl E,hx,trivial⟩
   · rename_i e
     have hx':=hx
     rw [e] at hx'; simp only [Rep] at hx'
     obtain ⟨_,_,hv,_⟩:=hx'
     intro out ho
     simp only [AP.run,Option.some.injEq] at ho; subst ho
     exact ⟨ρ x,E, .value (ρ x),by simp [execOp,hv], .inl rfl,hH,hr,Step.refl E,hx,trivial⟩
   · exact fail _
 | binOp op xt x y yt=>exact Snd.next (bin_snd hH hr (hρ x) (hρ y))
 | unOp op xt x=>exact Snd.next (unOp_snd hH hr (hρ x))
 | convert src dst x=>exact Snd.next (convert_snd hH hr (hρ x))
 | makeFunc fn first captured =>
   have hl : ∀ a : Array Operand,RepL E (a.toList.map ρA) (a.map ρ).toList:=fun a =>
     RepL.of_get (by simp) fun i x h=>by
       simp only [List.getElem?_map,Option.map_eq_some_iff] at h
       obtain ⟨p,hp,rfl⟩:=h
       exact ⟨ρ p,by rw [Array.toList_map,List.getElem?_map,hp]; rfl,hρ p⟩
   refine Snd.next (Snd.ret hH hr (v := .func fn (first.map ρ) (captured.map ρ)) (by simp [Instr.makeFunc]) ?_)
   simp only [Rep]
   exact ⟨_,_,rfl,hl first,hl captured⟩
 | makeSlice t l c=>exact Snd.next (makeSlice_snd hH hr (hρ l) (hρ c))
 | slice t x lo hi mx =>
   cases mx with
   | none=>exact Snd.next (sliceArr_snd hH hr (hρ x) (hopt lo) (hopt hi))
   | some m=>exact Snd.next (slice3_snd hH hr (hρ x) (hopt lo) (hopt hi) (hρ m))
 | fieldAddr s x f=>exact Snd.next (fieldAddr_snd hH hr (hρ x))
 | field t x f=>exact Snd.next (field_snd hH hr (hρ x))
 | indexAddr t x ix=>exact Snd.next (indexAddr_snd hH hr (hρ x) (hρ ix))
 | index t x ix=>exact Snd.next (index_snd hH hr (hρ x) (hρ ix))
 | extract t ix=>exact Snd.next (extract_snd hH hr (hρ t))
 | makeMap t r =>
   cases r with
   | none=>exact Snd.next (makeMap_snd hH hr)
   | some r=>exact fail _
 | lookup t m x ok=>exact Snd.next (lookup_snd hH hr (hρ m) (hρ x))
 | sliceToArrayPointer t x=>exact Snd.next (arrayAt_snd hH hr (hρ x))
 | insert t m x v=>exact Snd.skip (mapUpdate_snd hH hr (hρ m) (hρ x) (hρ v))
 | mapUpdate t m x v=>exact Snd.skip (mapUpdate_snd hH hr (hρ m) (hρ x) (hρ v))
 | mapEntry t m x=>exact Snd.next (mapEntry_snd hH hr (hρ m) (hρ x))
 | entryStore t m s v=>exact Snd.skip (entryStore_snd hH hr (hρ m) (hρ s) (hρ v))
 | call c =>
   obtain ⟨callee,args,ts⟩:=c
   have hargs : RepL E (args.toList.map ρA) (args.map ρ).toList:=RepL.of_get (by simp) fun i x h=>by
     simp only [List.getElem?_map,Option.map_eq_some_iff] at h
     obtain ⟨p,hp,rfl⟩:=h
     exact ⟨ρ p,by rw [Array.toList_map,List.getElem?_map,hp]; rfl,hρ p⟩
   cases callee with
   | builtin b =>
     simp only [opA,builtinA]
     cases b <;> dsimp only <;> first
       | exact fail _
       | skip
     case append =>
       split
       · rename_i t t' s x e1 e2
         rw [e2] at hargs
         simp only [RepL] at hargs
         obtain ⟨v,_,hv,hs,u,_,rfl,hx,rfl⟩:=hargs
         have ea : args.map ρ = #[v,u]:=Array.ext' hv
         have et : ts = #[t,t']:=Array.ext' e1
         have:=(appendS_snd (P:=P) hH hr (dst:=dst) (t:=t) (t':=t') (ty:=type) hs hx).next
         simpa [execOp,resolve,invoke,builtin,ea,et] using this
       · exact fail _
     case min =>
       have:=(mm_snd (P:=P) hH hr (mx:=false) (ts:=ts) (ty:=type) hargs).next
       simpa [execOp,resolve,invoke,builtin] using this
     case max =>
       have:=(mm_snd (P:=P) hH hr (mx:=true) (ts:=ts) (ty:=type) hargs).next
       simpa [execOp,resolve,invoke,builtin] using this
     case len =>
       split
       · rename_i t x e1 e2
         rw [e2] at hargs
         simp only [RepL] at hargs
         obtain ⟨v,_,hv,hx,rfl⟩:=hargs
         have ea : args.map ρ = #[v]:=Array.ext' hv
         have et : ts = #[t]:=Array.ext' e1
         have:=(lenX_snd (P:=P) hH hr (t:=t) (ty:=type) hx).next
         simpa [execOp,resolve,invoke,builtin,ea,et] using this
       · exact fail _
     case clear =>
       split
       · rename_i t x e1 e2
         rw [e2] at hargs
         simp only [RepL] at hargs
         obtain ⟨v,_,hv,hx,rfl⟩:=hargs
         have ea : args.map ρ = #[v]:=Array.ext' hv
         have et : ts = #[t]:=Array.ext' e1
         have:=(clear_snd (P:=P) hH hr (t:=t) (ty:=type) hx).next
         simpa [execOp,resolve,invoke,builtin,ea,et] using this
       · exact fail _
     case cap =>
       split
       · rename_i t x e1 e2
         rw [e2] at hargs
         simp only [RepL] at hargs
         obtain ⟨v,_,hv,hx,rfl⟩:=hargs
         have ea : args.map ρ = #[v]:=Array.ext' hv
         have et : ts = #[t]:=Array.ext' e1
         have:=(cap_snd (P:=P) hH hr (t:=t) (ty:=type) hx).next
         simpa [execOp,resolve,invoke,builtin,ea,et] using this
       · exact fail _
     case copy =>
       split
       · rename_i t t' s x e1 e2
         rw [e2] at hargs
         simp only [RepL] at hargs
         obtain ⟨v,_,hv,hs,u,_,rfl,hx,rfl⟩:=hargs
         have ea : args.map ρ = #[v,u]:=Array.ext' hv
         have et : ts = #[t,t']:=Array.ext' e1
         have:=(copy_snd (P:=P) hH hr (t:=t) (t':=t') (ty:=type) hs hx).next
         simpa [execOp,resolve,invoke,builtin,ea,et] using this
       · exact fail _
   | _=>exact fail _
 | _=>exact fail _
end
end Go.Abs
