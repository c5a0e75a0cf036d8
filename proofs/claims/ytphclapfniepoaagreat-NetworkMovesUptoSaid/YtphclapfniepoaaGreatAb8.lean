/- Contracts of functions of the slices package, the same for each kind of element. Conditions: none. -/
import Derived.Test.YtphclapfniepoaaGreatAb7
import Derived.Deep.Slices
import Derived.OpenShut
import Derived.ProofKit
import Derived.Test.YtphclapfniepoaaGreatAb6
import Derived.KernelRfl
namespace Go.Abs
open Go
set_option linter.unusedSimpArgs false
set_option linter.unusedVariables false
section
variable {P : Program}
theorem FnC.ofV {S : SpecFn} (f : FuncId) {fn : Func} (hf : P.funcs[f]? = some fn) (hb : fn.body = some (codeOf fn)) (hname : (fn.name == "runtime.NumGoroutine") = false)
   (h : ∀ args B r B',S args B = some (r,B') → (∀ b ∈ B,b.gen = 0) ∧ V P (RetM P fn B.length r B') (codeOf fn) [] (init2 fn args B)) : FnC P f S:=by
 refine ⟨⟨fn,hf,hname,by simp [hb]⟩,fun args B r B' hS E vs hH hr hx=>?_⟩
 obtain ⟨hg',hw⟩:=h args B r B' hS
 have hsz : vs.size = args.length:=by have:=hx.length; simpa using this
 have hsr : SR (init2 fn args B) { tmps:=vs ++ Array.replicate (fn.ntmps - vs.size) undef,defers:=[] } E:=by
   refine ⟨by rw [hH]; funext i; simp [init2,lk_num],hr,rfl,by simp [init2,hsz],fun t x ht=>?_⟩
   simp only [init2,lk_num,Nat.zero_le,if_true,Nat.sub_zero] at ht
   obtain ⟨v,hv,hxv⟩:=hx.get ht
   refine ⟨v, ?_,hxv⟩
   have hlt : t < vs.size:=by rw [hsz]; exact (List.getElem?_eq_some_iff.1 ht).1
   rw [Array.getElem?_append_left hlt]
   simpa using hv
 refine calls_of_wp hf hb (wp_mono (hw.h _ _ hsr) fun e a' w' hp=>?_)
 obtain ⟨σ',E1,rfl,h1,h2,he,xs,hxs,fz,out,ho,exp,gs,q1,q1b,q2,q2b,q3,rfl⟩:=hp
 obtain ⟨v,g1,g2⟩:=resVs_run h1 hxs
 obtain ⟨E2,k1,k2,k3,k4,k5⟩:=frqT_run h1.heap h1.hr g2 ho
 obtain ⟨E3,m1,m2,m3,m4,m5⟩:=export_envM hH hg' k2 k3 (h2.trans k4) q1 q1b q2 q2b q3
 have hfinal : bodyPost P fn (fun e w' => ∃ v E',e = .returned v ∧ E'.w = w' ∧ E'.H = (fun i=>B'[i]?) ∧ HR E' ∧ Step E E' ∧ Rep E' (out.val.ren (expG exp gs out.H)) v) .ret a' E1.w :=
   ⟨h1.defers,v,g1,v,E3,rfl,m1.trans k1,m2,m3,m4,ren_rep m5 _ _ k5⟩
 rcases he with rfl | rfl
 · exact hfinal
 · exact hfinal
theorem V.cut {c : Code} {Q : AS → Prop} {fs : List Fr} {σ : AS} (hc : c = .seq (cL c) (cR c)) (M : AS → Prop) (h1 : V P Q (cL c) (.loop M :: fs) σ) (h2 : ∀ σ',M σ' → V P Q (cR c) fs σ') : V P Q c fs σ := by
 refine ⟨?_⟩
 rw [hc]
 refine VP.seq (h1.h.mono fun e σ h=>?_)
 cases e with
 | normal=>exact (h2 σ h).h
 | _=>exact h
theorem V.slNil {c : Code} {Q : AS → Prop} {fs : List Fr} {n t id g off : Nat} {ts : NL AV} {H : NL ABlk} {blk : ABlk} (id' : Nat) (ht : lk ts t = some (.sl id g off 0)) (hb : lk H id = some blk) (hg : blk.gen = g) (hid : lk H id' = none)
   (h1 : V P Q c fs ⟨n,(t, .nils) :: ts,H⟩) (h2 : V P Q c fs ⟨n,(t, .psl id' 0 0 0 0) :: ts,(id', { gen:=1 }) :: H⟩) : V P Q c fs ⟨n,ts,H⟩:=by
 have dup : ∀ (y : AV) (H' : NL ABlk),AS.le ⟨n,(t,y) :: ts,H'⟩ ⟨n,(t,y) :: (t, .list blk.size []) :: ts,H'⟩:=fun y H'=>⟨rfl,fun t' x hx=>⟨x,by
   simp only [lk] at hx ⊢
   split at hx
   · rename_i e; rw [if_pos e]; exact hx
   · rename_i e; rw [if_neg e,if_neg e]; exact hx,fun _ _ h=>h⟩,fun _=>rfl⟩
 have k : V P Q c fs ⟨n,(t, .list blk.size []) :: ts,H⟩:=V.nilCase (s:=blk.size) id' (by simp [lk]) hid (V.weak (dup _ _) h1) (V.weak (dup _ _) h2)
 refine V.env (fun a E hs=>⟨E,rfl,Step.refl E, ?_⟩) k
 · refine ⟨hs.heap,hs.hr,hs.defers,hs.size,fun t' x hx=>?_⟩
   simp only [lk] at hx
   split at hx
   · rename_i e
     subst e
     simp only [Option.some.injEq] at hx
     subst hx
     obtain ⟨v,hv,hx⟩:=hs.tmps t _ ht
     refine ⟨v,hv, ?_⟩
     simp only [Rep] at hx
     obtain ⟨b,a,len',cap,k1,k2,rfl,k3⟩:=hx
     have hbb : b = blk:=by
       have : E.H id = some blk:=by rw [hs.heap]; exact hb
       rw [this] at k1; cases k1; rfl
     subst hbb
     obtain ⟨_,rfl,k4,k5,k6⟩:=k3 hg
     simp only [Rep,RepI]
     cases a with
     | none =>
       rcases Nat.eq_zero_or_pos cap with q | q
       · subst q; exact .inl ⟨rfl,trivial⟩
       · exact absurd (k6 q).1 (by simp)
     | some ad=>exact .inr ⟨ad,cap,rfl,k4,k5,fun h=>absurd rfl h,by simp only [RepRows]⟩
   · exact hs.tmps t' x hx
theorem V.shrink {c : Code} {Q : AS → Prop} {fs : List Fr} {n t id g k : Nat} {ts : NL AV} {H : NL ABlk} {blk : ABlk} (ht : lk ts t = some (.sl id g 0 k)) (hb : lk H id = some blk) (hg : blk.gen = g) (hk : blk.kind = 2)
   (h : V P Q c fs ⟨n,(t, .sl id (g + 1) 0 k) :: ts,st H id { blk with gen:=g + 1,rows:=blk.rows.take k }⟩) : V P Q c fs ⟨n,ts,H⟩:=by
 refine V.env (fun a E hs=>?_) h
 have hbE : E.H id = some blk:=by rw [hs.heap]; exact hb
 obtain ⟨q1,q2⟩:=hs.hr.shrink hbE hk k
 refine ⟨⟨E.w,upd E.H id (some { blk with gen:=blk.gen + 1,rows:=blk.rows.take k }),E.φ,E.cs,E.F⟩,rfl,q2, ?_,q1,hs.defers,hs.size,fun t' x hx=>?_⟩
 · subst hg
   show upd E.H id _ = lk (st H id _)
   rw [lk_st_upd, ← hs.heap]
 · simp only [lk] at hx
   split at hx
   · rename_i e
     subst e
     simp only [Option.some.injEq] at hx
     subst hx
     obtain ⟨v,hv,hx⟩:=hs.tmps t _ ht
     refine ⟨v,hv, ?_⟩
     simp only [Rep] at hx
     obtain ⟨b,a,len',cap,k1,k2,rfl,k3⟩:=hx
     rw [hbE] at k1; cases k1
     obtain ⟨j1,j2,j3,j4,j5⟩:=k3 hg
     simp only [Rep,upd_same]
     exact ⟨_,a,len',cap,rfl,by simp [hg],rfl,fun _=>⟨.inr hk,j2,j3,j4,j5⟩⟩
   · obtain ⟨v,hv,hx⟩:=hs.tmps t' x hx
     exact ⟨v,hv,Rep.mono q2 _ _ hx⟩
def okB (elem size : Nat) (b : ABlk) : Bool := b.gen == 0 && b.kind == 2 && b.elem == elem && b.size == size && b.inl
theorem okB_eq {elem size : Nat} {b : ABlk} (h : okB elem size b = true) : b = { gen := 0,kind := 2,elem,size,inl := true,rows := b.rows } := by
 obtain ⟨a,b,c,d,e,f⟩:=b
 simp only [okB,Bool.and_eq_true,beq_iff_eq] at h
 obtain ⟨⟨⟨⟨rfl,rfl⟩,rfl⟩,rfl⟩,rfl⟩:=h
 rfl
def rowB (elem size g : Nat) (rows : List (List AV)) : ABlk := { gen := g,kind := 2,elem,size,inl := true,rows }
def cloneC (elem size bytes : Nat) : SpecFn := fun args B => match args,B with
 | [.nils],[]=>some (.nils,[])
 | [.list s rows],[]=>if s = size ∧ rows.length * bytes ≤ 140737488355328 ∧ rows.length ≤ 9223372036854775807 ∧ rows.length ≤ maxLen then some (.sl 0 0 0 rows.length,[rowB elem size 0 rows]) else none
 | [.sl 0 0 0 len],[b]=>if okB elem size b = true ∧ len = b.rows.length ∧ len * bytes ≤ 140737488355328 ∧ len ≤ maxLen then some (.sl 1 0 0 len,[b,rowB elem size 0 b.rows]) else none
 | _,_=>none
def deleteC (elem size : Nat) : SpecFn := fun args B => match args,B with
 | [.sl 0 0 0 len, .int .i64 i, .int .i64 j],[b]=>if okB elem size b = true ∧ len = b.rows.length ∧ len ≤ 1000000 ∧ 0 ≤ i ∧ i < j ∧ j ≤ len then
     some (.sl 0 1 0 (i.toNat + (len - j.toNat)),[rowB elem size 1 (b.rows.take i.toNat ++ b.rows.drop j.toNat)]) else none
 | _,_=>none
def insertC (elem size bytes : Nat) : SpecFn := fun args B => match args,B with
 | [.sl 0 0 0 len, .int .i64 i, .sl 1 0 0 1],[b,c]=>if okB elem size b = true ∧ okB elem size c = true ∧ len = b.rows.length ∧ c.rows.length = 1 ∧ (len + 1) * bytes ≤ 140737488355328 ∧ len ≤ 1000000 ∧ 0 ≤ i ∧ i ≤ len then
     some (.sl 0 1 0 (len + 1),[rowB elem size 1 (b.rows.take i.toNat ++ c.rows ++ b.rows.drop i.toNat),c]) else none
 | _,_=>none
theorem delete_rows {α : Type} {l Z R D : List α} {i j m : Nat} (hi : i < j) (hj : j ≤ l.length) (hm : i + (l.length - j) = m) :
   (((l.take i ++ ((l.drop j).take (l.length - j) ++ D)).take m) ++ (Z ++ R)).take m = l.take i ++ l.drop j:=by
 have h1 : (l.take i).length = i:=by rw [List.length_take]; omega
 have h2 : (l.drop j).length = l.length - j:=List.length_drop
 have h3 : (l.take i ++ l.drop j).length = m:=by rw [List.length_append,h1,h2,hm]
 have h4 : ∀ (A B : List α) (n : Nat),A.length = n → (A ++ B).take n = A:=fun A B n h=>by rw [← h,List.take_left']; rfl
 have h5 : (l.drop j).take (l.length - j) = l.drop j:=by rw [← h2,List.take_length]
 have h6 : l.take i ++ (l.drop j ++ D) = (l.take i ++ l.drop j) ++ D:=(List.append_assoc ..).symm
 rw [h5,h6,h4 _ D _ h3,h4 _ _ _ h3]
def freezeH : NL ABlk → List Nat → NL ABlk
 | H,[]=>H
 | H,i :: r=>match lk H i with
   | some b=>if b.kind = 2 then freezeH (st H i { b with kind:=1 }) r else freezeH H r
   | none=>freezeH H r
theorem freezeH_env : ∀ (ids : List Nat) {H : NL ABlk} {E : Env},E.H = lk H → HR E → ∃ E1,E1.w = E.w ∧ E1.H = lk (freezeH H ids) ∧ HR E1 ∧ Step E E1
 | [],H,E,hH,hr=>⟨E,rfl,hH,hr,Step.refl E⟩
 | i :: r,H,E,hH,hr=>by
   simp only [freezeH]
   split
   · rename_i b hb
     split
     · rename_i hk
       obtain ⟨q1,q2⟩:=hr.freeze (id:=i) (by rw [hH]; exact hb) hk
       obtain ⟨E2,f1,f2,f3,f4⟩:=freezeH_env r (H:=st H i { b with kind:=1 }) (E:=⟨E.w,upd E.H i (some { b with kind:=1 }),E.φ,E.cs,E.F⟩) (by rw [lk_st_upd,hH]) q1
       exact ⟨E2,f1,f2,f3,q2.trans f4⟩
     · exact freezeH_env r hH hr
   · exact freezeH_env r hH hr
def pureS (S : SpecFn) : SpecFn := fun args B => match B with
 | []=>match S args [] with
   | some (r,B')=>if inlT (nzT (freezeH (num 0 B') (List.range B'.length)) r) = true then some (nzT (freezeH (num 0 B') (List.range B'.length)) r,[]) else none
   | none=>none
 | _=>none
theorem FnC.pure {S : SpecFn} {f : FuncId} (hf : FnC P f S) : FnC P f (pureS S) := by
 refine ⟨hf.1,fun args B r B' hS E vs hH hr hx=>?_⟩
 unfold pureS at hS
 split at hS
 · split at hS
   · rename_i r0 B0 h0
     split at hS
     · rename_i hi
       simp only [Option.some.injEq,Prod.mk.injEq] at hS
       obtain ⟨rfl,rfl⟩:=hS
       refine (hf.calls args [] r0 B0 h0 E vs hH hr hx).mono fun e w' ⟨v,E1,h1,h2,h3,h4,h5,h6⟩=>?_
       have hE0 : E.H = fun _=>none:=by rw [hH]; funext i; simp
       obtain ⟨E2,k1,k2,k3,k4⟩:=freezeH_env (List.range B0.length) (H:=num 0 B0) (E:=E1) (by rw [h3]; funext i; simp [lk_num]) h4
       have hx2:=nzT_rep k2 k3 (Rep.mono k4 _ _ h6)
       have hI:=inlT_rep hi hx2
       have hs:=h5.trans k4
       have hold : ∀ b,b < E.w.heap.size → E2.w.heap[b]? = E.w.heap[b]?:=fun b hb=>hs.old b hb (fun id blk h=>by simp [hE0] at h)
       refine ⟨v,⟨E2.w,fun _=>none,E2.φ,E2.cs,E2.F⟩,h1,k1.trans h2,by funext i; simp,⟨fun _ _ h=>by simp at h,fun _ _ _ _ h=>by simp at h,fun _ _ h=>by simp at h,k3.fb⟩,⟨hs.size,fun b hb _=>hold b hb,hs.fo,fun id blk h=>by simp [hE0] at h,fun _ _ h=>by simp at h,hs.kept⟩, ?_⟩
       exact RepI.rep _ _ (RepI.mono (fun b hb=>⟨⟨hb.1,hb.2.1,fun _ _ h=>by simp at h⟩,rfl⟩) _ _ hI)
     · cases hS
   · cases hS
 · cases hS
theorem W.zero {c : Code} {Q : AS → Prop} {fs : List Fr} {σ : AS} (hc : c = .loop (cL c)) (h : W P Q (cL c) (.loop (fun _ => False) :: fs) σ) : W P Q c fs σ :=
 W.loop hc (ι:=Unit) (fun _ => σ) (fun _=>0) () (AS.le_refl σ) fun _=>⟨h.h.mono fun e σ' hp=>by
   cases e with
   | normal=>simp only [post] at hp
   | _=>exact hp⟩
@[simp] theorem w64_n0 : IntKind.i64.wrap 0 = 0 := by decide
@[simp] theorem w64_n1 : IntKind.i64.wrap 1 = 1 := by decide
@[simp] theorem w64_n2 : IntKind.i64.wrap 2 = 2 := by decide
@[simp] theorem w64_n3 : IntKind.i64.wrap 3 = 3 := by decide
@[simp] theorem w64_n4 : IntKind.i64.wrap 4 = 4 := by decide
@[simp] theorem w64_m1 : IntKind.i64.wrap (-1) = -1 := by decide
end
end Go.Abs
namespace Go.Abs
open Go Go.ChangeShapes Go.WideShapes Go.Deep
set_option linter.unusedVariables false
set_option linter.unusedSimpArgs false
section
def tileB (P : Program) : List Field → Nat → Nat → Bool
 | [],o,tot=>o == tot
 | f :: r,o,tot=>f.offset == o && tileB P r (o + P.cellsOf f.type) tot
def plainT (P : Program) : Nat → TypeId → Bool
 | 0,_=>false
 | n + 1,t=>match P.underlying t with
   | some .bool=>P.cellsOf t == 1
   | some (.int _)=>P.cellsOf t == 1
   | some .string=>P.cellsOf t == 1
   | some (.slice e)=>P.cellsOf t == 1 && decide (0 < P.cellsOf e) && plainT P n e
   | some (.struct fs)=>tileB P fs.toList 0 (P.cellsOf t) && fs.toList.all fun f=>plainT P n f.type
   | some (.array m e)=>P.cellsOf t == m * P.cellsOf e && plainT P n e
   | _=>false
def TyFs (q : TypeId → List AV → Prop) : List TypeId → List AV → Prop
 | [],xs=>xs = []
 | t :: r,xs => ∃ a b,xs = a ++ b ∧ q t a ∧ TyFs q r b
def TyR (P : Program) : Nat → TypeId → List AV → Prop
 | 0,_,_=>False
 | n + 1,t,xs=>match P.underlying t with
   | some .bool => ∃ b,xs = [.bool b]
   | some (.int k) => ∃ m,xs = [.int k m] ∧ (Lit.int k m).wf = true
   | some .string => ∃ s : ByteArray,xs = [.str s] ∧ s.size ≤ maxLen
   | some (.slice e) => ∃ rows,xs = [.list (P.cellsOf e) rows] ∧ rows.length ≤ maxLen ∧ ∀ row ∈ rows,TyR P n e row
   | some (.struct fs)=>TyFs (TyR P n) (fs.toList.map (·.type)) xs
   | some (.array m e)=>TyFs (TyR P n) (List.replicate m e) xs
   | _=>False
theorem RepIL.append {w : World} {I : Nat → Prop} : ∀ {xs ys : List AV} {us vs : List Value},RepIL w I xs us → RepIL w I ys vs → RepIL w I (xs ++ ys) (us ++ vs)
 | [],ys,us,vs,h1,h2=>by
   simp only [RepIL] at h1
   subst h1
   exact h2
 | x :: r,ys,us,vs,h1,h2=>by
   simp only [RepIL] at h1
   obtain ⟨v,us',rfl,h3,h4⟩:=h1
   simp only [List.cons_append,RepIL]
   exact ⟨v,us' ++ vs,rfl,h3,RepIL.append h4 h2⟩
theorem pieces_rep {w : World} {I : Nat → Prop} {q : TypeId → List AV → Prop} {size : TypeId → Nat} {cs : List Value} : ∀ (ps : List (TypeId × Nat)) (o : Nat),(∀ p ∈ ps, ∃ xs,q p.1 xs ∧ RepIL w I xs ((cs.drop p.2).take (size p.1))) →
   (∀ (i : Nat) (p : TypeId × Nat),ps[i]? = some p → p.2 = o + ((ps.take i).map fun p=>size p.1).sum) → o + (ps.map fun p=>size p.1).sum = cs.length → ∃ xs,TyFs q (ps.map (·.1)) xs ∧ RepIL w I xs (cs.drop o)
 | [],o,_,_,hl=>by
   refine ⟨[],rfl, ?_⟩
   simp only [List.map_nil,List.sum_nil,Nat.add_zero] at hl
   rw [List.drop_of_length_le (by omega)]
   simp [RepIL]
 | p :: r,o,h,ho,hl=>by
   obtain ⟨a,h1,h2⟩:=h p (by simp)
   have hp:=ho 0 p (by simp)
   simp only [List.take_zero,List.map_nil,List.sum_nil,Nat.add_zero] at hp
   obtain ⟨b,h3,h4⟩:=pieces_rep r (o + size p.1) (fun p hp=>h p (by simp [hp])) (fun i q' hq=>by
     have:=ho (i + 1) q' (by simpa using hq)
     simp only [List.take_succ_cons,List.map_cons,List.sum_cons] at this
     omega) (by simp only [List.map_cons,List.sum_cons] at hl; omega)
   refine ⟨a ++ b,⟨a,b,rfl,h1,h3⟩, ?_⟩
   rw [hp] at h2
   have:=RepIL.append h2 h4
   rwa [← List.drop_drop,List.take_append_drop] at this
theorem list_choice {α : Type} {Q : Nat → α → Prop} : ∀ (n : Nat),(∀ i,i < n → ∃ x,Q i x) → ∃ l : List α,l.length = n ∧ ∀ i x,l[i]? = some x → Q i x
 | 0,_=>⟨[],rfl,by simp⟩
 | n + 1,h=>by
   obtain ⟨l,h1,h2⟩:=list_choice n fun i hi=>h i (by omega)
   obtain ⟨x,hx⟩:=h n (by omega)
   refine ⟨l ++ [x],by simp [h1],fun i y hy=>?_⟩
   by_cases hi : i < n
   · rw [List.getElem?_append_left (by omega)] at hy
     exact h2 i y hy
   · rw [List.getElem?_append_right (by omega)] at hy
     have : i = n:=by
       have:=(List.getElem?_eq_some_iff.1 hy).1
       simp only [List.length_cons,List.length_nil] at this
       omega
     subst this
     simp only [h1,Nat.sub_self,List.getElem?_cons_zero,Option.some.injEq] at hy
     subst hy
     exact hx
theorem tile_sum {P : Program} : ∀ (fs : List Field) (o tot : Nat),tileB P fs o tot = true → o + (fs.map fun f => P.cellsOf f.type).sum = tot ∧ ∀ (i : Nat) (f : Field),fs[i]? = some f → f.offset = o + ((fs.take i).map fun f => P.cellsOf f.type).sum
 | [],o,tot,h=>by
   simp only [tileB,beq_iff_eq] at h
   simp [h]
 | f :: r,o,tot,h=>by
   simp only [tileB,Bool.and_eq_true,beq_iff_eq] at h
   obtain ⟨h1,h2⟩:=tile_sum r _ _ h.2
   refine ⟨by simp only [List.map_cons,List.sum_cons]; omega,fun i g hg=>?_⟩
   cases i with
   | zero =>
     simp only [List.getElem?_cons_zero,Option.some.injEq] at hg
     subst hg
     simp [h.1]
   | succ i =>
     simp only [List.getElem?_cons_succ] at hg
     have:=h2 i g hg
     simp only [List.take_succ_cons,List.map_cons,List.sum_cons]
     omega
theorem RepIL.len {w : World} {I : Nat → Prop} : ∀ {xs : List AV} {vs : List Value},RepIL w I xs vs → xs.length = vs.length
 | [],_,h=>by simp only [RepIL] at h; subst h; rfl
 | x :: r,_,h=>by
   simp only [RepIL] at h
   obtain ⟨v,vs',rfl,_,h2⟩:=h
   simp [RepIL.len h2]
theorem RepIL.at {w : World} {I : Nat → Prop} : ∀ {xs : List AV} {vs : List Value},RepIL w I xs vs → ∀ {i : Nat} {x : AV},xs[i]? = some x → ∃ v,vs[i]? = some v ∧ RepI w I x v
 | [],_,_,i,x,hx=>by simp at hx
 | x :: r,_,h,i,y,hy=>by
   simp only [RepIL] at h
   obtain ⟨v,vs',rfl,h1,h2⟩:=h
   cases i with
   | zero =>
     simp only [List.getElem?_cons_zero,Option.some.injEq] at hy
     subst hy
     exact ⟨v,rfl,h1⟩
   | succ i=>simpa using RepIL.at h2 (by simpa using hy)
theorem sum_rep (n c : Nat) : (List.replicate n c).sum = n * c := by
 induction n with
 | zero=>simp
 | succ n ih=>rw [List.replicate_succ,List.sum_cons,ih,Nat.succ_mul]; omega
def AV.plain : AV → Bool
 | .bool _ | .int _ _ | .str _ | .list _ _=>true
 | _=>false
theorem plain_one {w : World} {I : Nat → Prop} {x : AV} {v : Value} (h : x.plain = true) (hx : RepI w I x v) : v.oneCell' = true := by
 cases x <;> simp only [AV.plain] at h <;> try (cases h)
 all_goals simp only [RepI] at hx
 case list size rows=>rcases hx with ⟨rfl,_⟩ | ⟨a,cap,rfl,_⟩ <;> rfl
 all_goals (subst hx; rfl)
theorem TyFs.all {q : TypeId → List AV → Prop} (hq : ∀ t xs,q t xs → xs.all AV.plain = true) : ∀ (ts : List TypeId) (xs : List AV),TyFs q ts xs → xs.all AV.plain = true
 | [],xs,h=>by simp only [TyFs] at h; subst h; rfl
 | t :: r,xs,h=>by
   simp only [TyFs] at h
   obtain ⟨a,b,rfl,h1,h2⟩:=h
   rw [List.all_append,hq t a h1,TyFs.all hq r b h2]
   rfl
theorem TyR.all {P : Program} : ∀ (n : Nat) (t : TypeId) (xs : List AV),TyR P n t xs → xs.all AV.plain = true
 | 0,_,_,h=>h.elim
 | n + 1,t,xs,h=>by
   unfold TyR at h
   split at h
   · obtain ⟨b,rfl⟩:=h; rfl
   · obtain ⟨m,rfl,_⟩:=h; rfl
   · obtain ⟨s,rfl,_⟩:=h; rfl
   · obtain ⟨rows,rfl,_⟩:=h; rfl
   · exact TyFs.all (fun t xs h=>TyR.all n t xs h) _ _ h
   · exact TyFs.all (fun t xs h=>TyR.all n t xs h) _ _ h
   · exact h.elim
end
end Go.Abs
namespace Go.Abs
open Go Go.ChangeShapes Go.WideShapes Go.ChangeAt Go.RowKit
section
def TyV (P : Program) (n : Nat) (t : TypeId) (x : AV) : Prop :=
 match P.underlying t with
 | some (.struct _) | some (.array _ _) => ∃ cs,x = .agg cs ∧ TyR P n t cs
 | _=>TyR P n t [x]
theorem TrodAll_stays {H : Type} {enc : TypeId × Value → H} {P : Program} (hl : laidOutB P = true) {W W' : World} (hb : Below W.heap.size W W') {sp : Nat → Bool} : ∀ (ts : List TypeId) (vs : List Value) (ds : List (DataW H)) (ps : List MemPlace),
   (∀ t ∈ ts,P.readableRec t = true ∧ t < P.types.size) → (∀ p ∈ ps,p.block < W.heap.size ∧ sp p.block = true) → DataW.TrodAll enc P W 0 (fun _=>true) true ts vs ds ps → DataW.TrodAll enc P W' 0 sp true ts vs ds ps
 | [],[],[],_,_,_,h=>h
 | t :: ts,v :: vs,d :: ds,ps,ht,hp,⟨p,q,h1,h2,e⟩ =>
   ⟨p,q,WideElems.Trod_stays hl (ht t (by simp)).1 (ht t (by simp)).2 h1 (fun x hx=>hb.same (hp x (by rw [e]; exact List.mem_append_left _ hx)).1) (fun x hx=>(hp x (by rw [e]; exact List.mem_append_left _ hx)).2),
     TrodAll_stays hl hb ts vs ds q (fun t h=>ht t (by simp [h])) (fun x hx=>hp x (by rw [e]; exact List.mem_append_right _ hx)) h2,e⟩
theorem TrodAll_len {H : Type} {enc : TypeId × Value → H} {P : Program} {w : World} {base : Nat} {spare : Nat → Bool} {held : Bool} : ∀ (ts : List TypeId) (vs : List Value) (ds : List (DataW H)) (ps : List MemPlace),DataW.TrodAll enc P w base spare held ts vs ds ps → ds.length = ts.length
 | [],[],[],_,_=>rfl
 | _ :: ts,_ :: vs,_ :: ds,_,⟨_,q,_,h2,_⟩=>by simp [TrodAll_len ts vs ds q h2]
theorem post_of_same_old {H : Type} {enc : TypeId × Value → H} {P : Program} {f : Func} {s : ChangeSpec} {apart fresh handsOn again : Bool} {W W' : World} {args : Array Value} {v : Value} {ds gs : List (DataW H)} {before pa pv : List MemPlace}
   (hW : DataW.Whole enc P f.params.toList s.vars apart W args.toList ds gs before)
   (hres : ∀ (b : Nat) (sp : Nat → Bool) (hd : Bool),DataW.TrodAll enc P W' b sp hd f.resultTypes.toList (v.resultList f.resultTypes.size) (s.fn H (ds ++ gs)).results [])
   (hargs : ∀ sp : Nat → Bool,(∀ p ∈ before,sp p.block = true) → DataW.TrodAll enc P W' 0 sp true f.params.toList args.toList (s.fn H (ds ++ gs)).args pa)
   (hvars : ∀ sp : Nat → Bool,(∀ p ∈ before,sp p.block = true) → DataW.TrodVars enc P W' sp s.vars (s.fn H (ds ++ gs)).vars pv)
   (hps : before = pa ++ pv) (hk : W.keptBut W' (· ∈ before)) (hfz : ∀ a : Addr,a.block < W.heap.size → W'.frozen? a = W.frozen? a)
   (hok : ∀ (j : Nat) (t : TypeId) (r : Value),f.resultTypes[j]? = some t → (v.resultList f.resultTypes.size)[j]? = some r → Value.okWide P W' .any 0 t r) :
   s.post enc P f apart fresh handsOn again W args v W':=by
 have hold : ∀ p ∈ before,(fun b=>decide (b < W.heap.size)) p.block = true:=fun p hp=>by simpa using hW.lt p hp
 refine ⟨ds,gs,before,[],pa,pv,hW,hres _ _ _,hargs _ hold,hvars _ hold,World.keptBut_mono (fun p hp=>⟨hp, ?_⟩) hk,fun _=>?_⟩
 · rw [hps,List.mem_append] at hp
   exact Or.inr hp
 · have hlt:=hW.lt
   obtain ⟨_,_,_,_,_,hz,hn⟩:=hW
   refine ⟨hok,_,_,([] ++ pa) ++ pv,⟨[] ++ pa,pv,trodAll_append (hargs _ (fun _ _=>rfl)) (hres _ _ _),hvars _ (fun _ _=>rfl),rfl, ?_, ?_⟩, ?_⟩
   · intro b off hp
     have hp' : MemPlace.cell b off ∈ before:=by rw [hps]; simpa using hp
     rw [hfz _ (hlt _ hp')]
     exact hz b off hp'
   · intro ha
     have:=hn ha
     rw [hps] at this
     simpa using this
   · intro p hp _
     rw [hps]
     simpa using hp
theorem law_calls {P : Program} {f : FuncId} {fn : Func} {S : SpecFn} (hf : FnC P f S) {H : Type} {enc : TypeId × Value → H} {W : World} {args : Array Value} {ds gs : List (DataW H)} {before : List MemPlace} {s : ChangeSpec} {apart fresh handsOn again : Bool}
   (hl : laidOutB P = true) (hr : ∀ t ∈ fn.params.toList,P.readableRec t = true ∧ t < P.types.size) {tb : TypeId} (hrt : fn.resultTypes = #[tb]) (htb : P.underlying tb = some .bool)
   (hvars : s.vars = []) (hspec : ∀ ds,ds.length = fn.params.size → s.fn H ds = { results:=[.lit (.bool true)],args:=ds })
   (hW : DataW.Whole enc P fn.params.toList s.vars apart W args.toList ds gs before)
   {xs : List AV} (hx : RepIL W (fun b=>b < W.heap.size) xs args.toList) (hS : S xs [] = some (.bool true,[])) :
   Calls P f args W fun e W' => ∃ v,e = .returned v ∧ s.post enc P fn apart fresh handsOn again W args v W':=by
 have hE0 : (env0 W (fun _=>False)).imm = fun b=>b < W.heap.size:=by
   funext b; simp [Env.imm,env0]
 have hargs : RepL (env0 W (fun _=>False)) xs args.toList:=RepIL.rep _ _ (by rw [hE0]; exact hx)
 refine (hf.calls xs [] (.bool true) [] hS (env0 W (fun _=>False)) args (by funext i; simp [env0]) (HR.env0 (fun b h=>h.elim)) hargs).mono fun e w' ⟨v,E',h1,h2,h3,h4,h5,h6⟩=>⟨v,h1, ?_⟩
 subst h2
 simp only [Rep] at h6
 subst h6
 have hb : Below W.heap.size W E'.w:=⟨h5.kept.os,h5.kept.tape,h5.kept.output,h5.size,fun k hk=>h5.old k hk (fun id blk h=>by simp [env0] at h)⟩
 have hW':=hW
 obtain ⟨p,q,hA,hV,rfl,hfz,hnd⟩:=hW
 rw [hvars] at hV
 obtain ⟨rfl,rfl⟩:=trodVars_none hV
 have hlen : ds.length = fn.params.size:=by rw [TrodAll_len _ _ _ _ hA,Array.length_toList]
 have hs:=hspec ds hlen
 refine post_of_same_old (pa:=p) (pv:=[]) hW' (fun b sp hd=>?_) (fun sp hsp=>?_) (fun sp hsp=>?_) rfl (hb.frame _) h5.kept.fr (ok_one hrt rfl (okWide_bool_mk htb true))
 · rw [List.append_nil,hs,hrt]
   exact trodAll_mk1 (shut_bool htb true)
 · rw [List.append_nil,hs]
   exact TrodAll_stays hl hb _ _ _ _ hr (fun x hx=>⟨hW'.lt x (by simp [hx]),hsp x (by simp [hx])⟩) hA
 · rw [List.append_nil,hs,hvars]
   rfl
end
end Go.Abs
namespace Go.Abs
open Go
set_option linter.unusedSimpArgs false
set_option linter.unusedVariables false
section
def leafsN (P : Program) : Nat → TypeId → List TypeId
 | 0,t=>[t]
 | n + 1,t=>match P.underlying t with
   | some (.struct fs)=>(fs.toList.map (·.type)).flatMap (leafsN P n)
   | some (.array m e)=>(List.replicate m e).flatMap (leafsN P n)
   | _=>[t]
def leafs (P : Program) (t : TypeId) : List TypeId := leafsN P 9 t
mutual
def nrmV (P : Program) (t : TypeId) : AV → AV
 | .nils=>match P.underlying t with
   | some (.slice e) => .list (P.cellsOf e) []
   | _ => .nils
 | .list s rows=>match P.underlying t with
   | some (.slice e) => .list s (nrmRows P (leafs P e) rows)
   | _ => .list s rows
 | .agg cs => .agg (nrmL P (leafs P t) cs)
 | .any => .any
 | .bool b => .bool b
 | .int k n => .int k n
 | .str s => .str s
 | .nilp => .nilp
 | .ptr i g r o => .ptr i g r o
 | .cptr cs => .cptr cs
 | .sl i g o l => .sl i g o l
 | .nilf => .nilf
 | .fn f a b => .fn f a b
 | .nilm => .nilm
 | .amap i g => .amap i g
 | .psl i g r o l => .psl i g r o l
 | .slc i g o l c => .slc i g o l c
 | .tup vs => .tup vs
def nrmL (P : Program) : List TypeId → List AV → List AV
 | t :: ts,x :: xs=>nrmV P t x :: nrmL P ts xs
 | [],xs=>xs
 | _ :: _,[]=>[]
def nrmRows (P : Program) (ts : List TypeId) : List (List AV) → List (List AV)
 | []=>[]
 | r :: rs=>nrmL P ts r :: nrmRows P ts rs
end
theorem nrmRows_eq (P : Program) (ts : List TypeId) : ∀ rows : List (List AV),nrmRows P ts rows = rows.map (nrmL P ts)
 | []=>by simp [nrmRows]
 | r :: rs=>by simp [nrmRows,nrmRows_eq P ts rs]
theorem nrmL_nil (P : Program) : ∀ xs : List AV,nrmL P [] xs = xs
 | []=>by simp [nrmL]
 | _ :: _=>by simp [nrmL]
theorem nrmL_len (P : Program) : ∀ (ts : List TypeId) (xs : List AV),(nrmL P ts xs).length = xs.length
 | [],xs=>by rw [nrmL_nil]
 | _ :: _,[]=>by simp [nrmL]
 | t :: ts,x :: xs=>by simp [nrmL,nrmL_len P ts xs]
mutual
theorem nrmV_repI {P : Program} {w : World} {I : Nat → Prop} (t : TypeId) : (x : AV) → (v : Value) → RepI w I x v → RepI w I (nrmV P t x) v
 | .nils,v,h=>by
   simp only [nrmV]
   split
   · simp only [RepI] at h ⊢
     exact .inl ⟨h,trivial⟩
   · exact h
 | .list s rows,v,h=>by
   simp only [nrmV]
   split
   · simp only [RepI] at h ⊢
     rename_i e _
     have hl : (nrmRows P (leafs P e) rows).length = rows.length:=by rw [nrmRows_eq]; simp
     have hn : nrmRows P (leafs P e) rows = [] ↔ rows = []:=by rw [nrmRows_eq]; simp
     rcases h with ⟨h1,h2⟩ | ⟨a,cap,h1,h2,h3,h4,h5⟩
     · exact .inl ⟨h1,hn.2 h2⟩
     · exact .inr ⟨a,cap,by rw [hl]; exact h1,by rw [hl]; exact h2,h3,fun hne=>h4 (fun e=>hne (hn.2 e)),nrmRows_rep _ _ _ _ _ h5⟩
   · exact h
 | .agg cs,v,h=>by
   simp only [nrmV]
   simp only [RepI] at h ⊢
   obtain ⟨vs,h1,h2⟩:=h
   exact ⟨vs,h1,nrmL_repI _ _ _ h2⟩
 | .any,_,h=>by simpa only [nrmV] using h
 | .bool _,_,h=>by simpa only [nrmV] using h
 | .int _ _,_,h=>by simpa only [nrmV] using h
 | .str _,_,h=>by simpa only [nrmV] using h
 | .nilp,_,h=>by simpa only [nrmV] using h
 | .ptr _ _ _ _,_,h=>by simpa only [nrmV] using h
 | .cptr _,_,h=>by simpa only [nrmV] using h
 | .sl _ _ _ _,_,h=>by simpa only [nrmV] using h
 | .nilf,_,h=>by simpa only [nrmV] using h
 | .fn _ _ _,_,h=>by simpa only [nrmV] using h
 | .nilm,_,h=>by simpa only [nrmV] using h
 | .amap _ _,_,h=>by simpa only [nrmV] using h
 | .psl _ _ _ _ _,_,h=>by simpa only [nrmV] using h
 | .slc _ _ _ _ _,_,h=>by simpa only [nrmV] using h
 | .tup _,_,h=>by simpa only [nrmV] using h
theorem nrmL_repI {P : Program} {w : World} {I : Nat → Prop} : (ts : List TypeId) → (xs : List AV) → (vs : List Value) → RepIL w I xs vs → RepIL w I (nrmL P ts xs) vs
 | [],xs,vs,h=>by rw [nrmL_nil]; exact h
 | _ :: _,[],vs,h=>by simpa only [nrmL] using h
 | t :: ts,x :: xs,vs,h=>by
   simp only [nrmL,RepIL] at h ⊢
   obtain ⟨v,vs',h1,h2,h3⟩:=h
   exact ⟨v,vs',h1,nrmV_repI t x v h2,nrmL_repI ts xs vs' h3⟩
theorem nrmL_repC {P : Program} {w : World} {I : Nat → Prop} : (ts : List TypeId) → (xs : List AV) → (b off : Nat) → RepC w I xs b off → RepC w I (nrmL P ts xs) b off
 | [],xs,b,off,h=>by rw [nrmL_nil]; exact h
 | _ :: _,[],b,off,h=>by simpa only [nrmL] using h
 | t :: ts,x :: xs,b,off,h=>by
   simp only [nrmL,RepC] at h ⊢
   obtain ⟨⟨u,h1,h2,h3⟩,h4⟩:=h
   exact ⟨⟨u,h1,h2,nrmV_repI t x u h3⟩,nrmL_repC ts xs b (off + 1) h4⟩
theorem nrmRows_rep {P : Program} {w : World} {I : Nat → Prop} (ts : List TypeId) : (rows : List (List AV)) → (b off size : Nat) → RepRows w I rows b off size → RepRows w I (nrmRows P ts rows) b off size
 | [],_,_,_,_=>by simp only [nrmRows,RepRows]
 | r :: rs,b,off,size,h=>by
   simp only [nrmRows,RepRows] at h ⊢
   obtain ⟨h1,h2,h3⟩:=h
   exact ⟨by rw [nrmL_len]; exact h1,nrmL_repC ts r b off h2,nrmRows_rep ts rs b _ size h3⟩
end
mutual
theorem nrmV_rep {P : Program} {E : Env} (t : TypeId) : (x : AV) → (v : Value) → Rep E x v → Rep E (nrmV P t x) v
 | .nils,v,h=>(by
   have h' : RepI E.w E.imm .nils v:=h
   have:=nrmV_repI (P:=P) t .nils v h'
   exact RepI.rep _ _ this)
 | .list s rows,v,h=>(by
   have h' : RepI E.w E.imm (.list s rows) v:=h
   have:=nrmV_repI (P:=P) t (.list s rows) v h'
   exact RepI.rep _ _ this)
 | .agg cs,v,h=>by
   simp only [nrmV]
   simp only [Rep] at h ⊢
   obtain ⟨vs,h1,h2⟩:=h
   exact ⟨vs,h1,nrmL_rep _ _ _ h2⟩
 | .any,_,h=>by simpa only [nrmV] using h
 | .bool _,_,h=>by simpa only [nrmV] using h
 | .int _ _,_,h=>by simpa only [nrmV] using h
 | .str _,_,h=>by simpa only [nrmV] using h
 | .nilp,_,h=>by simpa only [nrmV] using h
 | .ptr _ _ _ _,_,h=>by simpa only [nrmV] using h
 | .cptr _,_,h=>by simpa only [nrmV] using h
 | .sl _ _ _ _,_,h=>by simpa only [nrmV] using h
 | .nilf,_,h=>by simpa only [nrmV] using h
 | .fn _ _ _,_,h=>by simpa only [nrmV] using h
 | .nilm,_,h=>by simpa only [nrmV] using h
 | .amap _ _,_,h=>by simpa only [nrmV] using h
 | .psl _ _ _ _ _,_,h=>by simpa only [nrmV] using h
 | .slc _ _ _ _ _,_,h=>by simpa only [nrmV] using h
 | .tup _,_,h=>by simpa only [nrmV] using h
theorem nrmL_rep {P : Program} {E : Env} : (ts : List TypeId) → (xs : List AV) → (vs : List Value) → RepL E xs vs → RepL E (nrmL P ts xs) vs
 | [],xs,vs,h=>by rw [nrmL_nil]; exact h
 | _ :: _,[],vs,h=>by simpa only [nrmL] using h
 | t :: ts,x :: xs,vs,h=>by
   simp only [nrmL,RepL] at h ⊢
   obtain ⟨v,vs',h1,h2,h3⟩:=h
   exact ⟨v,vs',h1,nrmV_rep t x v h2,nrmL_rep ts xs vs' h3⟩
end
def nS (P : Program) (ts : List TypeId) (S : SpecFn) : SpecFn := fun args B => S (nrmL P ts args) B
theorem nS_eq (P : Program) (ts : List TypeId) (S : SpecFn) (args : List AV) (B : List ABlk) : nS P ts S args B = S (nrmL P ts args) B := rfl
theorem FnC.nrm {P : Program} {f : FuncId} {S : SpecFn} (ts : List TypeId) (h : FnC P f S) : FnC P f (nS P ts S) :=
 ⟨h.fn,fun args B r B' hS E vs hH hr hx=>h.calls _ B r B' hS E vs hH hr (nrmL_rep ts args _ hx)⟩
def nrmR (P : Program) : List TypeId → AV → AV
 | [t],x=>nrmV P t x
 | ts, .tup vs => .tup (nrmL P ts vs)
 | _,x=>x
theorem nrmR_rep {P : Program} {E : Env} (ts : List TypeId) (x : AV) (v : Value) (h : Rep E x v) : Rep E (nrmR P ts x) v := by
 unfold nrmR
 split
 · exact nrmV_rep _ _ _ h
 · simp only [Rep] at h ⊢
   obtain ⟨cs,h1,h2⟩:=h
   exact ⟨cs,h1,nrmL_rep _ _ _ h2⟩
 · exact h
theorem FnC.res {P : Program} {f : FuncId} {S S' : SpecFn} (ts : List TypeId) (h : FnC P f S) (hS : ∀ args B r B',S' args B = some (r,B') → ∃ r',S args B = some (r',B') ∧ nrmR P ts r' = r) : FnC P f S' :=
 ⟨h.fn,fun args B r B' hS' E vs hH hr hx=>by
   obtain ⟨r',h1,rfl⟩:=hS args B r B' hS'
   exact (h.calls args B r' B' h1 E vs hH hr hx).mono fun e w' ⟨v,E',k1,k2,k3,k4,k5,k6⟩=>⟨v,E',k1,k2,k3,k4,k5,nrmR_rep ts _ _ k6⟩⟩
variable {P : Program}
def RetNf (P : Program) (fn : Func) (ts : List TypeId) (r : AV) (B : List ABlk) (σ : AS) : Prop := ∃ r',Ret P fn r' B σ ∧ nrmR P ts r' = r
def RetBN (P : Program) (fn : Func) (ts : List TypeId) (k : Nat) (r : AV) (B : List ABlk) (σ : AS) : Prop := ∃ r',RetB P fn k r' B σ ∧ nrmR P ts r' = r
theorem W.ex {Q : AV → AS → Prop} {c : Code} {σ : AS} {R : AV → Prop} (h : W P (fun τ => ∃ r',Q r' τ ∧ R r') c [] σ) (hne : ∃ r',R r') : ∃ r',R r' ∧ W P (Q r') c [] σ := by
 by_cases hs : ∃ a E,SR σ a E
 · obtain ⟨e, τ,⟨hen,r,hq,hr⟩,hx⟩:=h.h hs
   exact ⟨r,hr,⟨fun _=>⟨e, τ,⟨hen,hq⟩,hx⟩⟩⟩
 · obtain ⟨r,hr⟩:=hne
   exact ⟨r,hr,⟨fun h=>absurd h hs⟩⟩
theorem FnC.walkN {α : Type} {enc : α → List AV} {res : α → AV × List ABlk} (f : FuncId) {fn : Func} (ts : List TypeId) (hf : P.funcs[f]? = some fn) (hb : fn.body = some (codeOf fn)) (hname : (fn.name == "runtime.NumGoroutine") = false)
   (h : ∀ x,W P (RetNf P fn ts (res x).1 (res x).2) (codeOf fn) [] (init fn (enc x))) (hne : ∀ x, ∃ r',nrmR P ts r' = (res x).1) : FnC P f (mkS enc res):=by
 have key : ∀ x, ∃ r',nrmR P ts r' = (res x).1 ∧ W P (Ret P fn r' (res x).2) (codeOf fn) [] (init fn (enc x)):=fun x=>W.ex (R:=fun r'=>nrmR P ts r' = (res x).1) (h x) (hne x)
 refine FnC.res ts (FnC.walk (enc:=enc) (res:=fun x=>((key x).choose,(res x).2)) f hf hb hname fun x=>(key x).choose_spec.2) fun args B r B' hS=>?_
 unfold mkS at hS ⊢
 split at hS
 · rename_i hc
   rw [dif_pos hc]
   simp only [Option.some.injEq] at hS
   have e2 : (res hc.2.choose).2 = B':=by rw [hS]
   exact ⟨(key hc.2.choose).choose,congrArg (fun z=>some (_,z)) e2,by rw [(key _).choose_spec.1,hS]⟩
 · cases hS
theorem FnC.walkBN {α : Type} {enc : α → List AV × List ABlk} {res : α → AV × List ABlk} (f : FuncId) {fn : Func} (ts : List TypeId) (hf : P.funcs[f]? = some fn) (hb : fn.body = some (codeOf fn)) (hname : (fn.name == "runtime.NumGoroutine") = false)
   (hg : ∀ x, ∀ b ∈ (enc x).2,b.gen = 0) (h : ∀ x,W P (RetBN P fn ts (enc x).2.length (res x).1 (res x).2) (codeOf fn) [] (init2 fn (enc x).1 (enc x).2)) (hne : ∀ x, ∃ r',nrmR P ts r' = (res x).1) : FnC P f (mkS2 enc res):=by
 have key : ∀ x, ∃ r',nrmR P ts r' = (res x).1 ∧ W P (RetB P fn (enc x).2.length r' (res x).2) (codeOf fn) [] (init2 fn (enc x).1 (enc x).2):=fun x=>W.ex (R:=fun r'=>nrmR P ts r' = (res x).1) (h x) (hne x)
 refine FnC.res ts (FnC.walkB (enc:=enc) (res:=fun x=>((key x).choose,(res x).2)) f hf hb hname hg fun x=>(key x).choose_spec.2) fun args B r B' hS=>?_
 unfold mkS2 at hS ⊢
 split at hS
 · rename_i hc
   rw [dif_pos hc]
   simp only [Option.some.injEq] at hS
   have e2 : (res hc.choose).2 = B':=by rw [hS]
   exact ⟨(key hc.choose).choose,congrArg (fun z=>some (_,z)) e2,by rw [(key _).choose_spec.1,hS]⟩
 · cases hS
end
section
variable {P : Program}
theorem TyFs.mono {q q' : TypeId → List AV → Prop} (h : ∀ t xs,q t xs → q' t xs) : ∀ (ts : List TypeId) (xs : List AV),TyFs q ts xs → TyFs q' ts xs
 | [],_,hx=>hx
 | t :: r,xs,⟨a,b,e,h1,h2⟩=>⟨a,b,e,h _ _ h1,TyFs.mono h r b h2⟩
theorem TyR.mono : ∀ {n : Nat} {t : TypeId} {xs : List AV},TyR P n t xs → TyR P (n + 1) t xs
 | 0,t,xs,h=>by simp [TyR] at h
 | n + 1,t,xs,h=>by
   rw [TyR] at h ⊢
   split at h
   · exact h
   · exact h
   · exact h
   · obtain ⟨rows,rfl,h1,h2⟩:=h
     exact ⟨rows,rfl,h1,fun r hr=>TyR.mono (h2 r hr)⟩
   · exact TyFs.mono (fun _ _ h=>TyR.mono h) _ _ h
   · exact TyFs.mono (fun _ _ h=>TyR.mono h) _ _ h
   · exact h.elim
theorem TyR.monoN {n m : Nat} (hm : n ≤ m) {t : TypeId} {xs : List AV} (h : TyR P n t xs) : TyR P m t xs := by
 induction m with
 | zero => have : n = 0 := by omega
           subst this; exact h
 | succ m ih =>
   by_cases e : n = m + 1
   · subst e; exact h
   · exact (ih (by omega)).mono
theorem TyR_bool {n : Nat} {t : TypeId} {xs : List AV} (h : P.underlying t = some .bool) : TyR P (n + 1) t xs = ∃ b,xs = [.bool b] := by simp only [TyR,h]
theorem TyR_int {n : Nat} {t : TypeId} {k : IntKind} {xs : List AV} (h : P.underlying t = some (.int k)) : TyR P (n + 1) t xs = ∃ m,xs = [.int k m] ∧ (Lit.int k m).wf = true := by simp only [TyR,h]
theorem TyR_string {n : Nat} {t : TypeId} {xs : List AV} (h : P.underlying t = some .string) : TyR P (n + 1) t xs = ∃ s : ByteArray,xs = [.str s] ∧ s.size ≤ maxLen := by simp only [TyR,h]
theorem TyR_struct {n : Nat} {t : TypeId} {fs : Array Field} {xs : List AV} (h : P.underlying t = some (.struct fs)) : TyR P (n + 1) t xs = TyFs (TyR P n) (fs.toList.map (·.type)) xs := by simp only [TyR,h]
theorem TyR_array {n : Nat} {t m e : Nat} {xs : List AV} (h : P.underlying t = some (.array m e)) : TyR P (n + 1) t xs = TyFs (TyR P n) (List.replicate m e) xs := by simp only [TyR,h]
def RowsTy (P : Program) (n : Nat) (e : TypeId) (rows : List (List AV)) : Prop := ∀ row ∈ rows,TyR P n e row
theorem TyR_slice {n : Nat} {t e : TypeId} {xs : List AV} (h : P.underlying t = some (.slice e)) : TyR P (n + 1) t xs = ∃ rows,xs = [.list (P.cellsOf e) rows] ∧ rows.length ≤ maxLen ∧ RowsTy P n e rows := by simp only [TyR,h,RowsTy]
def AV.dat (x : AV) : Bool := x.cellish && x.isInl
theorem TyFs.allP {q : TypeId → List AV → Prop} {p : AV → Bool} (h : ∀ t xs,q t xs → xs.all p = true) : ∀ (ts : List TypeId) (xs : List AV),TyFs q ts xs → xs.all p = true
 | [],_,hx=>by simp only [TyFs] at hx; subst hx; rfl
 | t :: r,xs,⟨a,b,e,h1,h2⟩=>by
   subst e
   rw [List.all_append,h _ _ h1,TyFs.allP h r b h2]; rfl
theorem TyR.dat : ∀ {n : Nat} {t : TypeId} {xs : List AV},TyR P n t xs → xs.all AV.dat = true
 | 0,t,xs,h=>by simp [TyR] at h
 | n + 1,t,xs,h=>by
   rw [TyR] at h
   split at h
   · obtain ⟨b,rfl⟩:=h; rfl
   · obtain ⟨m,rfl,_⟩:=h; rfl
   · obtain ⟨s,rfl,_⟩:=h; rfl
   · obtain ⟨rows,rfl,_⟩:=h; rfl
   · exact TyFs.allP (fun _ _ h=>TyR.dat h) _ _ h
   · exact TyFs.allP (fun _ _ h=>TyR.dat h) _ _ h
   · exact h.elim
theorem nrmL_append (ts : List TypeId) : ∀ (us : List TypeId) (xs ys : List AV),us.length = xs.length → nrmL P (us ++ ts) (xs ++ ys) = nrmL P us xs ++ nrmL P ts ys
 | [],[],ys,_=>by simp [nrmL_nil]
 | [],x :: xs,_,h=>by simp at h
 | u :: us,[],_,h=>by simp at h
 | u :: us,x :: xs,ys,h=>by
   simp only [List.cons_append,nrmL]
   rw [nrmL_append ts us xs ys (by simpa using h)]
theorem TyFs.nrm {q : TypeId → List AV → Prop} {lf : TypeId → List TypeId} (h : ∀ t xs,q t xs → (lf t).length = xs.length ∧ nrmL P (lf t) xs = xs) : ∀ (ts : List TypeId) (xs : List AV),TyFs q ts xs → (ts.flatMap lf).length = xs.length ∧ nrmL P (ts.flatMap lf) xs = xs
 | [],_,hx=>by simp only [TyFs] at hx; subst hx; simp [nrmL]
 | t :: r,xs,⟨a,b,e,h1,h2⟩=>by
   subst e
   obtain ⟨l1,n1⟩:=h _ _ h1
   obtain ⟨l2,n2⟩:=TyFs.nrm h r b h2
   rw [List.flatMap_cons,List.length_append,List.length_append,nrmL_append _ _ _ _ l1,n1,n2]
   exact ⟨by omega,rfl⟩
theorem TyR.nrmN : ∀ {n m : Nat} (_ : n ≤ m) (_ : m ≤ 9) {t : TypeId} {xs : List AV},TyR P n t xs → (leafsN P m t).length = xs.length ∧ nrmL P (leafsN P m t) xs = xs
 | 0,m,_,_,t,xs,h=>by simp [TyR] at h
 | n + 1,0,h1,_,_,_,_=>by omega
 | n + 1,m + 1,hm,h9,t,xs,h=>by
   rw [TyR] at h
   rw [leafsN]
   split at h
   · rename_i hu
     obtain ⟨b,rfl⟩:=h; simp [hu,nrmL,nrmV]
   · rename_i hu
     obtain ⟨m,rfl,_⟩:=h; simp [hu,nrmL,nrmV]
   · rename_i hu
     obtain ⟨s,rfl,_⟩:=h; simp [hu,nrmL,nrmV]
   · rename_i e hu
     obtain ⟨rows,rfl,_,hr⟩:=h
     have : nrmRows P (leafs P e) rows = rows:=by
       rw [nrmRows_eq]
       conv=>rhs; rw [← List.map_id rows]
       exact List.map_congr_left fun r hr'=>(TyR.nrmN (n:=n) (m:=9) (by omega) (Nat.le_refl _) (hr r hr')).2
     simp [hu,nrmL,nrmV,this]
   · rename_i fs hu
     simp only [hu]
     exact TyFs.nrm (fun t xs h=>TyR.nrmN (by omega) (by omega) h) _ _ h
   · rename_i k e hu
     simp only [hu]
     exact TyFs.nrm (fun t xs h=>TyR.nrmN (by omega) (by omega) h) _ _ h
   · exact h.elim
theorem TyR.nrm {n : Nat} (hn : n ≤ 9) {t : TypeId} {xs : List AV} (h : TyR P n t xs) : (leafs P t).length = xs.length ∧ nrmL P (leafs P t) xs = xs := TyR.nrmN hn (Nat.le_refl _) h
mutual
def bdV (k : Nat) : AV → Bool
 | .list _ rows=>decide (rows.length ≤ k) && bdRows k rows
 | .agg cs=>bdL k cs
 | .cptr cs=>bdL k cs
 | .tup cs=>bdL k cs
 | _=>true
def bdL (k : Nat) : List AV → Bool
 | []=>true
 | x :: r=>bdV k x && bdL k r
def bdRows (k : Nat) : List (List AV) → Bool
 | []=>true
 | x :: r=>bdL k x && bdRows k r
end
theorem bdRows_mem {k : Nat} {rows : List (List AV)} (h : bdRows k rows = true) {r : List AV} (hr : r ∈ rows) : bdL k r = true := by
 induction rows with
 | nil=>simp at hr
 | cons x rs ih =>
   simp only [bdRows,Bool.and_eq_true] at h
   rcases List.mem_cons.1 hr with rfl | hr
   · exact h.1
   · exact ih h.2 hr
theorem bdRows_of {k : Nat} : ∀ {rows : List (List AV)},(∀ r ∈ rows,bdL k r = true) → bdRows k rows = true
 | [],_=>rfl
 | x :: rs,h=>by
   have h1:=bdRows_of (k:=k) (rows:=rs) fun r hr=>h r (List.mem_cons_of_mem _ hr)
   simp only [bdRows,h x (by simp),h1,Bool.and_self]
theorem bdL_append {k : Nat} (a b : List AV) : bdL k (a ++ b) = (bdL k a && bdL k b) := by
 induction a with
 | nil=>simp [bdL]
 | cons x r ih=>simp only [List.cons_append,bdL,ih,Bool.and_assoc]
structure Td (P : Program) (t : TypeId) where
 cells : List AV
 ty : TyR P 8 t cells
 bd : bdL 10000 cells = true
theorem Td.ext {t : TypeId} {a b : Td P t} (h : a.cells = b.cells) : a = b := by
 cases a; cases b; simp only at h; subst h; rfl
variable {t : TypeId}
theorem Td.all (d : Td P t) : d.cells.all AV.dat = true := d.ty.dat
theorem dat_split {x : AV} (h : x.dat = true) : x.cellish = true ∧ x.isInl = true := by simpa [AV.dat] using h
@[simp] theorem Td.isInl (d : Td P t) : d.cells.all AV.isInl = true := by
 rw [List.all_eq_true]
 exact fun x hx=>(dat_split (List.all_eq_true.1 d.all x hx)).2
@[simp] theorem Td.cellish (d : Td P t) : d.cells.all AV.cellish = true := by
 rw [List.all_eq_true]
 exact fun x hx=>(dat_split (List.all_eq_true.1 d.all x hx)).1
@[simp] theorem Td.cellInl (d : Td P t) (b : Bool) : d.cells.all (fun x => x.cellish && (!b || x.isInl)) = true := by
 rw [List.all_eq_true]
 exact fun x hx=>by obtain ⟨h1,h2⟩:=dat_split (List.all_eq_true.1 d.all x hx); simp [h1,h2]
@[simp] theorem Td.cellInl2 (d : Td P t) : d.cells.all (fun x => x.cellish && x.isInl) = true := d.all
theorem Td.nrmL (d : Td P t) : nrmL P (leafs P t) d.cells = d.cells := (d.ty.nrm (by omega)).2
theorem Td.len' (d : Td P t) : d.cells.length = (leafs P t).length := (d.ty.nrm (by omega)).1.symm
theorem ren_inl {f : Nat → Nat → Option (Nat × Nat)} {x : AV} (h : x.isInl = true) : x.ren f = x := by
 cases x <;> simp [AV.isInl] at h <;> try rfl
 rename_i g a b
 cases a <;> cases b <;> simp [AV.isInl] at h
 simp [AV.ren,renL]
theorem renL_inl {f : Nat → Nat → Option (Nat × Nat)} : ∀ {l : List AV},l.all AV.isInl = true → renL f l = l
 | [],_=>rfl
 | x :: r,h=>by
   simp only [List.all_cons,Bool.and_eq_true] at h
   simp only [renL,ren_inl h.1,renL_inl h.2]
theorem refs_inl {x : AV} (h : x.isInl = true) : x.refs = [] := by
 cases x <;> simp [AV.isInl] at h <;> try rfl
 rename_i g a b
 cases a <;> cases b <;> simp [AV.isInl] at h
 simp [AV.refs,refsL]
theorem refsL_inl : ∀ {l : List AV},l.all AV.isInl = true → refsL l = []
 | [],_=>rfl
 | x :: r,h=>by
   simp only [List.all_cons,Bool.and_eq_true] at h
   simp only [refsL,refs_inl h.1,refsL_inl h.2,List.append_nil]
@[simp] theorem Td.renL (d : Td P t) (f : Nat → Nat → Option (Nat × Nat)) : renL f d.cells = d.cells := renL_inl d.isInl
@[simp] theorem Td.refsL (d : Td P t) : refsL d.cells = [] := refsL_inl d.isInl
@[simp] theorem renL_app (f : Nat → Nat → Option (Nat × Nat)) (a b : List AV) : Go.Abs.renL f (a ++ b) = Go.Abs.renL f a ++ Go.Abs.renL f b := by
 induction a with
 | nil=>rfl
 | cons x r ih=>simp only [List.cons_append,Go.Abs.renL,ih]
@[simp] theorem refsL_app (a b : List AV) : Go.Abs.refsL (a ++ b) = Go.Abs.refsL a ++ Go.Abs.refsL b := by
 induction a with
 | nil=>rfl
 | cons x r ih=>simp only [List.cons_append,Go.Abs.refsL,ih,List.append_assoc]
theorem nrmRows_map {β : Type} {ts : List TypeId} {f : β → List AV} (h : ∀ x,Go.Abs.nrmL P ts (f x) = f x) (l : List β) : nrmRows P ts (l.map f) = l.map f := by
 rw [nrmRows_eq,List.map_map]
 exact List.map_congr_left fun x _=>h x
def datS (S : SpecFn) : SpecFn := fun args B => match B with
 | []=>match S args [] with
   | some (r,B')=>match (frqT true r).run (num 0 B') with
     | some out=>if inlT out.val = true then some (out.val,[]) else none
     | none=>none
   | none=>none
 | _=>none
theorem FnC.dat {f : FuncId} {S : SpecFn} (h : FnC P f S) : FnC P f (datS S) := by
 refine ⟨h.fn,fun args B r B' hS E vs hH hr hx=>?_⟩
 unfold datS at hS
 split at hS
 · split at hS
   · rename_i r0 B0 hS0
     split at hS
     · rename_i out ho
       split at hS
       · rename_i hi
         simp only [Option.some.injEq,Prod.mk.injEq] at hS
         obtain ⟨rfl,rfl⟩:=hS
         have hE0 : E.H = fun _=>none:=by rw [hH]; funext i; simp
         refine (h.calls args [] r0 B0 hS0 E vs hH hr hx).mono fun e w' ⟨v,E1,k1,k2,k3,k4,k5,k6⟩=>?_
         have hH1 : E1.H = lk (num 0 B0):=by rw [k3]; funext i; simp [lk_num]
         obtain ⟨E2,m1,m2,m3,m4,m5⟩:=frqT_run hH1 k4 k6 ho
         have hs:=k5.trans m4
         have hi2:=inlT_rep hi m5
         have hold : ∀ b,b < E.w.heap.size → E2.w.heap[b]? = E.w.heap[b]?:=fun b hb=>hs.old b hb (fun id blk h=>by simp [hE0] at h)
         refine ⟨v,⟨E2.w,fun _=>none,E2.φ,E2.cs,E2.F⟩,k1,m1.trans k2,by funext i; simp,⟨fun _ _ h=>by simp at h,fun _ _ _ _ h=>by simp at h,fun _ _ h=>by simp at h,m3.fb⟩,⟨hs.size,fun b hb _=>hold b hb,hs.fo,fun id blk h=>by simp [hE0] at h,fun _ _ h=>by simp at h,hs.kept⟩, ?_⟩
         exact RepI.rep _ _ (RepI.mono (fun b hb=>⟨⟨hb.1,hb.2.1,fun _ _ h=>by simp at h⟩,rfl⟩) _ _ hi2)
       · cases hS
     · cases hS
   · cases hS
 · cases hS
theorem datS_clone (elem size bytes : Nat) (rows : List (List AV)) (h : rows.length ≤ 10000) (hb : bytes ≤ 1000) : datS (cloneC elem size bytes) [.list size rows] [] = some (.list size rows,[]) := by
 have h1 : rows.length * bytes ≤ 140737488355328:=Nat.le_trans (Nat.mul_le_mul h hb) (by decide)
 have h2 : rows.length ≤ 9223372036854775807:=by omega
 have h3 : rows.length ≤ maxLen:=by simp only [maxLen]; omega
 simp [datS,cloneC,h1,h2,h3,rowB,frqT,frqV,frq1,frz1,num,lk,st,AP.run,inlT,inlV,AV.isInl]
end
section
variable {P : Program}
def TEq (ts ts' : NL AV) : Prop := ∀ t,lk ts t = lk ts' t
theorem ev_congr {n m : Nat} {ts ts' : NL AV} {H H' : NL ABlk} (h : TEq ts ts') : (AS.mk n ts H).ev = (AS.mk m ts' H').ev := by
 funext x
 cases x with
 | tmp t=>simp only [AS.ev,h t]
 | _=>rfl
theorem putA_congr {n : Nat} {ts ts' : NL AV} {H H' : NL ABlk} (h : TEq ts ts') {d : Option Nat} {x : AV} {us : NL AV} (hp : putA ⟨n,ts,H⟩ d x = some us) : ∃ us',putA ⟨n,ts',H'⟩ d x = some us' ∧ TEq us us' := by
 cases d with
 | none =>
   simp only [putA,Option.some.injEq] at hp ⊢
   subst hp
   exact ⟨_,rfl,h⟩
 | some d =>
   simp only [putA] at hp ⊢
   split at hp
   · rename_i hd
     simp only [Option.some.injEq] at hp
     subst hp
     refine ⟨_,if_pos hd,fun t=>?_⟩
     simp only [lk]
     split
     · rfl
     · exact h t
   · cases hp
theorem execA_congr {specs : FuncId → Option Spec} {kk n : Nat} {ts ts' : NL AV} {H : NL ABlk} (h : TEq ts ts') {o : Oper} {σ' : AS} {fp : FP} (he : execA P specs kk ⟨n,ts,H⟩ o = some (σ',fp)) :
   ∃ us,execA P specs kk ⟨n,ts',H⟩ o = some (⟨σ'.n,us, σ'.heap⟩,fp) ∧ TEq σ'.tmps us:=by
 unfold execA at he ⊢
 rw [← ev_congr (n:=n) (m:=n) (H:=H) (H':=H) h]
 split at he
 · rename_i out ho
   split at he
   · rename_i us hus
     simp only [Option.some.injEq,Prod.mk.injEq] at he
     obtain ⟨rfl,rfl⟩:=he
     obtain ⟨us',h1,h2⟩:=putA_congr (H':=H) h hus
     exact ⟨us',by simp only [ho,h1],h2⟩
   · cases he
 · cases he
theorem skipA_congr {n : Nat} {ts ts' : NL AV} {H : NL ABlk} (h : TEq ts ts') {o : Oper} {σ' : AS} {fp : FP} (he : skipA ⟨n,ts,H⟩ o = some (σ',fp)) :
   ∃ us,skipA ⟨n,ts',H⟩ o = some (⟨σ'.n,us, σ'.heap⟩,fp) ∧ TEq σ'.tmps us:=by
 unfold skipA at he ⊢
 split at he
 · rename_i us hus
   simp only [Option.some.injEq,Prod.mk.injEq] at he
   obtain ⟨rfl,rfl⟩:=he
   obtain ⟨us',h1,h2⟩:=putA_congr (H':=H) h hus
   exact ⟨us',by simp only [h1],h2⟩
 · cases he
theorem stepA_congr {specs : FuncId → Option Spec} {kk n : Nat} {ops : Array Oper} {ts ts' : NL AV} {H : NL ABlk} (h : TEq ts ts') {o : Oper} {σ' : AS} {fp : FP} (he : stepA P specs kk ops ⟨n,ts,H⟩ o = some (σ',fp)) :
   ∃ us,stepA P specs kk ops ⟨n,ts',H⟩ o = some (⟨σ'.n,us, σ'.heap⟩,fp) ∧ TEq σ'.tmps us:=by
 unfold stepA at he ⊢
 split at he
 · exact execA_congr h he
 · rename_i j want hg
   split at he
   · rename_i d hd
     have hd':=h d
     dsimp only at he
     split at he
     · rename_i b hb
       rw [hb] at hd'
       simp only [hd, ← hd']
       split at he
       · rename_i e; rw [if_pos e]; exact execA_congr h he
       · rename_i e; rw [if_neg e]; exact skipA_congr h he
     · rename_i xs hb
       rw [hb] at hd'
       simp only [hd, ← hd']
       exact skipA_congr h he
     · cases he
   · cases he
theorem runF_congr {specs : FuncId → Option Spec} {kk : Nat} {ops : Array Oper} : ∀ (l : List Oper) {n : Nat} {ts ts' : NL AV} {H : NL ABlk} (_ : TEq ts ts') {σ' : AS} {fps : List FP} (_ : runF P specs kk ops l ⟨n,ts,H⟩ = some (σ',fps)),
   ∃ us,runF P specs kk ops l ⟨n,ts',H⟩ = some (⟨σ'.n,us, σ'.heap⟩,fps) ∧ TEq σ'.tmps us
 | [],n,ts,ts',H,h, σ',fps,he=>by
   simp only [runF,Option.some.injEq,Prod.mk.injEq] at he ⊢
   obtain ⟨rfl,rfl⟩:=he
   exact ⟨ts',⟨rfl,rfl⟩,h⟩
 | o :: r,n,ts,ts',H,h, σ',fps,he=>by
   simp only [runF] at he ⊢
   split at he
   · rename_i σ1 fp hs
     obtain ⟨us,h1,h2⟩:=stepA_congr h hs
     split at he
     · rename_i σ2 fs hr
       simp only [Option.some.injEq,Prod.mk.injEq] at he
       obtain ⟨rfl,rfl⟩:=he
       obtain ⟨vs,h3,h4⟩:=runF_congr r h2 hr
       exact ⟨vs,by simp only [h1,h3],h4⟩
     · cases he
   · cases he
theorem runL_runF {specs : FuncId → Option Spec} {kk : Nat} {ops : Array Oper} : ∀ (l : List Oper) {σ σ' : AS} {fps : List FP} (_ : runF P specs kk ops l σ = some (σ',fps)), ∃ A,runL P specs kk ops l σ = some (σ',A) ∧ (A → asAll fps)
 | [], σ, σ',fps,he=>by
   simp only [runF,Option.some.injEq,Prod.mk.injEq] at he
   obtain ⟨rfl,rfl⟩:=he
   exact ⟨True,rfl,fun _=>trivial⟩
 | o :: r, σ, σ',fps,he=>by
   simp only [runF] at he
   simp only [runL]
   split at he
   · rename_i σ1 fp hs
     split at he
     · rename_i σ2 fs hr
       simp only [Option.some.injEq,Prod.mk.injEq] at he
       obtain ⟨rfl,rfl⟩:=he
       obtain ⟨A,h1,h2⟩:=runL_runF r hr
       exact ⟨fp.as ∧ A,by simp only [hs,h1],fun hA=>⟨hA.1,h2 hA.2⟩⟩
     · cases he
   · cases he
def stopG (ops : Array Oper) (kn : List Nat) (o : Oper) : Bool := match o.guard with
 | none=>false
 | some (j,_)=>match gdst ops j with
   | some d => !kn.contains d
   | none=>false
def runG (P : Program) (specs : FuncId → Option Spec) (kk : Nat) (ops : Array Oper) (kn : List Nat) : List Oper → AS → Option (AS × List FP × List Oper)
 | [], σ=>some (σ,[],[])
 | o :: r, σ=>if stopG ops kn o then some (σ,[],o :: r) else match stepA P specs kk ops σ o with
   | some (σ',fp)=>match runG P specs kk ops kn r σ' with
     | some (σ'',fs,rest)=>some (σ'',fp :: fs,rest)
     | none=>none
   | none=>none
theorem runG_F {specs : FuncId → Option Spec} {kk : Nat} {ops : Array Oper} {kn : List Nat} : ∀ (l : List Oper) {σ σ1 σ2 : AS} {f1 f2 : List FP} {rest : List Oper} (_ : runG P specs kk ops kn l σ = some (σ1,f1,rest)) (_ : runF P specs kk ops rest σ1 = some (σ2,f2)),runF P specs kk ops l σ = some (σ2,f1 ++ f2)
 | [], σ, σ1, σ2,f1,f2,rest,h,h2=>by
   simp only [runG,Option.some.injEq,Prod.mk.injEq] at h
   obtain ⟨rfl,rfl,rfl⟩:=h
   exact h2
 | o :: r, σ, σ1, σ2,f1,f2,rest,h,h2=>by
   simp only [runG] at h
   split at h
   · simp only [Option.some.injEq,Prod.mk.injEq] at h
     obtain ⟨rfl,rfl,rfl⟩:=h
     exact h2
   · split at h
     · rename_i σ3 fp hs
       split at h
       · rename_i σ4 fs rest' hr
         simp only [Option.some.injEq,Prod.mk.injEq] at h
         obtain ⟨rfl,rfl,rfl⟩:=h
         simp only [runF,hs,runG_F r hr h2,List.cons_append]
       · cases h
     · cases h
theorem asAll_append : ∀ (a b : List FP),asAll (a ++ b) → asAll a ∧ asAll b
 | [],b,h=>⟨trivial,h⟩
 | x :: a,b,h=>⟨⟨h.1,(asAll_append a b h.2).1⟩,(asAll_append a b h.2).2⟩
theorem Ret.dataE {P : Program} {fn : Func} {r r0 : AV} {σ : AS} {xs : List AV} {H : NL ABlk} {rd wr : List Nat} {A : Prop} {rs : List ResultVar} (h0 : fn.results.toList = rs) (h1 : resVs P σ rs = some xs) (h2 : frzTR (pack xs) σ.heap = some ⟨r0,H,rd,wr,A⟩) (h3 : inlT r0 = true) (h4 : r0 = r) : Ret P fn r [] σ :=
 h4 ▸ Ret.dataR h0 h1 h2 h3
theorem RetNf.dataE {P : Program} {fn : Func} {ts : List TypeId} {r r0 : AV} {σ : AS} {xs : List AV} {H : NL ABlk} {rd wr : List Nat} {A : Prop} {rs : List ResultVar} (h0 : fn.results.toList = rs) (h1 : resVs P σ rs = some xs) (h2 : frzTR (pack xs) σ.heap = some ⟨r0,H,rd,wr,A⟩) (h3 : inlT r0 = true) (h4 : nrmR P ts r0 = r) : RetNf P fn ts r [] σ :=
 ⟨r0,Ret.dataR h0 h1 h2 h3,h4⟩
theorem RetB.raw {P : Program} {fn : Func} {k : Nat} {r : AV} {B : List ABlk} {σ : AS} {rs : List ResultVar} {xs : List AV} (exp : List Nat) (h0 : fn.results.toList = rs) (h1 : resVs P σ rs = some xs)
   (h3 : exp.Nodup) (h4 : ∀ i,i < k → exp[i]? = some i ∧ (lk σ.heap i).map (·.gen) = some 0) (h5 : exp.map (expB2 exp σ.heap) = B.map some) (h6 : (pack xs).ren (expF exp σ.heap) = r) : RetB P fn k r B σ:=by
 refine ⟨xs,by rw [h0]; exact h1,false,⟨pack xs, σ.heap,[],[],True⟩, ?_,exp,h3,h4,h5,h6.symm⟩
 simp [frqT,AP.run]
theorem RetBN.dataE {P : Program} {fn : Func} {ts : List TypeId} {k : Nat} {r r0 r1 : AV} {B : List ABlk} {σ : AS} {rs : List ResultVar} {xs : List AV} {H : NL ABlk} {rd wr : List Nat} {A : Prop} (fz : Bool) (exp : List Nat) (h0 : fn.results.toList = rs) (h1 : resVs P σ rs = some xs)
   (h2 : (frqT fz (pack xs)).run σ.heap = some ⟨r0,H,rd,wr,A⟩) (h3 : exp.Nodup) (h4 : ∀ i,i < k → exp[i]? = some i ∧ (lk H i).map (·.gen) = some 0) (h5 : exp.map (expB2 exp H) = B.map some) (h6 : r0.ren (expF exp H) = r1) (h7 : nrmR P ts r1 = r) : RetBN P fn ts k r B σ :=
 ⟨r1,RetB.mk fz exp h0 h1 h2 h3 h4 h5 h6,h7⟩
def seqFr : List Fr → Bool
 | .seq _ :: _=>true
 | .blk _ :: r=>seqFr r
 | _=>false
def headStop (ops : Array Oper) (kn : List Nat) : List Oper → Bool
 | o :: _=>stopG ops kn o
 | []=>true
theorem nrmL_get (ts : List TypeId) : ∀ (xs : List AV) (j : Nat) (y : AV),(nrmL P ts xs)[j]? = some y → ∃ x t,xs[j]? = some x ∧ (y = nrmV P t x ∨ y = x) := by
 induction ts with
 | nil =>
   intro xs j y h
   rw [nrmL_nil] at h
   exact ⟨y,0,h, .inr rfl⟩
 | cons t ts ih =>
   intro xs j y h
   cases xs with
   | nil=>simp [nrmL] at h
   | cons x xs =>
     simp only [nrmL] at h
     cases j with
     | zero =>
       simp only [List.getElem?_cons_zero,Option.some.injEq] at h
       exact ⟨x,t,rfl, .inl h.symm⟩
     | succ j =>
       simp only [List.getElem?_cons_succ] at h ⊢
       exact ih xs j y h
theorem norm_env {n : Nat} {ts : NL AV} {H : NL ABlk} (id : Nat) (ws : List TypeId) {blk : ABlk} (hb : lk H id = some blk) (hk : blk.kind = 2) :
   ∀ a E,SR ⟨n,ts,H⟩ a E → ∃ E1,E1.w = E.w ∧ Step E E1 ∧ SR ⟨n,ts,st H id { blk with rows:=blk.rows.map (nrmL P ws) }⟩ a E1:=fun a E hs=>by
 have hbE : E.H id = some blk:=by rw [hs.heap]; exact hb
 obtain ⟨C,hC,hcs,hsz,hlen,hrl,hcell⟩:=hs.hr.cells hbE (.inr hk)
 rcases Nat.eq_zero_or_pos (E.cs id) with h0 | hcp
 · have hrows : blk.rows = []:=by
     refine List.eq_nil_of_length_eq_zero ?_
     rcases Nat.eq_zero_or_pos blk.rows.length with q | q
     · exact q
     · have:=Nat.mul_pos q hsz; omega
   have he : ({ blk with rows:=blk.rows.map (nrmL P ws) } : ABlk) = blk:=by
     obtain ⟨a,b,c,d,e,f⟩:=blk
     dsimp only at hrows
     subst hrows
     rfl
   rw [he]
   refine ⟨E,rfl,Step.refl E,⟨?_,hs.hr,hs.defers,hs.size,hs.tmps⟩⟩
   show E.H = lk (st H id blk)
   rw [lk_st_upd, ← hs.heap]
   funext k
   by_cases e : id = k
   · subst e; rw [upd_same,hbE]
   · rw [upd_other _ _ _ e]
 · obtain ⟨q1,q2⟩:=hs.hr.write (blk':={ blk with rows:=blk.rows.map (nrmL P ws) }) (C:=C) (w':=E.w) hbE hk hcp ⟨rfl,rfl,rfl,rfl⟩ (fun _ _=>rfl) (hC hcp) hcs hk (Nat.le_refl _) rfl rfl
     (by
       show (blk.rows.map (nrmL P ws)).length * blk.size ≤ C.size
       rw [List.length_map]; exact hlen)
     (fun r row h=>by
       simp only [List.getElem?_map,Option.map_eq_some_iff] at h
       obtain ⟨row0,h1,rfl⟩:=h
       rw [nrmL_len]
       exact hrl r row0 h1)
     (fun r row j y h hy=>by
       simp only [List.getElem?_map,Option.map_eq_some_iff] at h
       obtain ⟨row0,h1,rfl⟩:=h
       obtain ⟨x,t,hx,hyx⟩:=nrmL_get ws row0 j y hy
       obtain ⟨u,k1,k2,k3⟩:=hcell r row0 j x h1 hx
       refine ⟨u,k1,k2, ?_⟩
       rcases hyx with rfl | rfl
       · unfold CellR at k3 ⊢
         dsimp only
         cases hi : blk.inl with
         | true=>rw [hi] at k3; exact nrmV_repI t x u k3
         | false=>rw [hi] at k3; exact nrmV_rep t x u k3
       · exact k3)
   refine ⟨⟨E.w,upd E.H id (some { blk with rows:=blk.rows.map (nrmL P ws) }),E.φ,E.cs,E.F⟩,rfl,q2, ?_,q1,hs.defers,hs.size,fun t' x hx=>?_⟩
   · show upd E.H id _ = lk (st H id _)
     rw [lk_st_upd, ← hs.heap]
   · obtain ⟨v,hv,hx⟩:=hs.tmps t' x hx
     exact ⟨v,hv,Rep.mono q2 _ _ hx⟩
theorem W.nrmB {Q : AS → Prop} {c : Code} {fs : List Fr} {n : Nat} {ts : NL AV} {H : NL ABlk} (id : Nat) (ws : List TypeId) {blk : ABlk} (hb : lk H id = some blk) (hk : blk.kind = 2)
   (h : W P Q c fs ⟨n,ts,st H id { blk with rows:=blk.rows.map (nrmL P ws) }⟩) : W P Q c fs ⟨n,ts,H⟩:=W.env (norm_env id ws hb hk) h
structure RW (P : Program) (Q : AS → Prop) (specs : NL Spec) (ops : Array Oper) (draw : Bool) (fs : List Fr) (kn : List Nat) (acc : List (List Nat × List Nat)) (B : Prop) (l : List Oper) (σ : AS) : Prop where
 h : ∃ σ' fps,runF P (specOf specs) 0 ops l σ = some (σ',fps) ∧ (draw = true → drawOK ops (acc ++ fps.map fun f=>(f.rd,f.wr)) = true) ∧ (B → asAll fps → N P Q fs σ')
section
variable {Q : AS → Prop} {specs : NL Spec} {ops : Array Oper} {fs : List Fr} {kn : List Nat} {acc : List (List Nat × List Nat)} {B : Prop} {l : List Oper} {σ : AS}
theorem W.reg {c : Code} {id : Nat} {d : Bool} (hm : P.follows .mixedOrders = true) (hsp : ∀ p ∈ specs,FnC P p.1 p.2.fn) (hc : c = .region id ops d) (h : RW P Q specs ops d fs [] [] True ops.toList σ) : W P Q c fs σ := by
 obtain ⟨σ',fps,h1,h2,h3⟩:=h.h
 cases d with
 | false =>
   obtain ⟨A,h4,h5⟩:=runL_runF _ h1
   exact W.region hm hsp hc h4 fun hA=>h3 trivial (h5 hA)
 | true=>exact W.regionD hm hsp hc h1 rfl (by simpa using h2 rfl) (h3 trivial)
theorem RW.done (h : B → N P Q fs σ) : RW P Q specs ops false fs kn acc B [] σ := ⟨σ,[],rfl,(fun e => by cases e),fun hB _ => h hB⟩
theorem RW.doneD (hd : drawOK ops acc = true) (h : B → N P Q fs σ) : RW P Q specs ops true fs kn acc B [] σ := ⟨σ,[],rfl,fun _ => by simpa using hd,fun hB _ => h hB⟩
theorem RW.donz (h : N P Q fs σ) : RW P Q specs ops false fs kn acc B [] σ := RW.done fun _ => h
theorem RW.donzD (hd : drawOK ops acc = true) (h : N P Q fs σ) : RW P Q specs ops true fs kn acc B [] σ := RW.doneD hd fun _ => h
theorem RW.run {d : Bool} {σ1 : AS} {f1 : List FP} {rest : List Oper} {acc' : List (List Nat × List Nat)} (hp : headStop ops kn l = false) (hr : runG P (specOf specs) 0 ops kn l σ = some (σ1,f1,rest)) (ha : acc ++ (f1.map fun f => (f.rd,f.wr)) = acc') (h : RW P Q specs ops d fs kn acc' (B ∧ asAll f1) rest σ1) : RW P Q specs ops d fs kn acc B l σ := by
 obtain ⟨σ',fps,h1,h2,h3⟩:=h.h
 refine ⟨σ',f1 ++ fps,runG_F l hr h1,fun e=>?_,fun hB hh=>h3 ⟨hB,(asAll_append _ _ hh).1⟩ (asAll_append _ _ hh).2⟩
 rw [List.map_append, ← List.append_assoc,ha]
 exact h2 e
theorem RW.runL {σ1 : AS} {f1 : List FP} {rest : List Oper} (hp : headStop ops kn l = false) (hr : runG P (specOf specs) 0 ops kn l σ = some (σ1,f1,rest)) (h : RW P Q specs ops false fs kn [] (B ∧ asAll f1) rest σ1) : RW P Q specs ops false fs kn acc B l σ := by
 obtain ⟨σ',fps,h1,h2,h3⟩:=h.h
 exact ⟨σ',f1 ++ fps,runG_F l hr h1,(fun e=>by cases e),fun hB hh=>h3 ⟨hB,(asAll_append _ _ hh).1⟩ (asAll_append _ _ hh).2⟩
def headG (ops : Array Oper) : List Oper → Option Nat
 | o :: _=>match o.guard with
   | some (j,_)=>gdst ops j
   | none=>none
 | []=>none
theorem RW.gU {d : Bool} {t : Nat} {xs : List AV} (ht : headG ops l = some t) (hk : kn.contains t = false) (hv : lk σ.tmps t = some (.tup xs)) (h : RW P Q specs ops d fs (t :: kn) acc B l σ) : RW P Q specs ops d fs kn acc B l σ := ⟨h.h⟩
theorem RW.hT {d : Bool} {t : Nat} {b : Bool} (ht : headG ops l = some t) (hk : kn.contains t = false) (hv : lk σ.tmps t = some (.bool b)) (hb : b = true) (h : RW P Q specs ops d fs (t :: kn) acc B l σ) : RW P Q specs ops d fs kn acc B l σ := ⟨h.h⟩
theorem RW.hF {d : Bool} {t : Nat} {b : Bool} (ht : headG ops l = some t) (hk : kn.contains t = false) (hv : lk σ.tmps t = some (.bool b)) (hb : b = false) (h : RW P Q specs ops d fs (t :: kn) acc B l σ) : RW P Q specs ops d fs kn acc B l σ := ⟨h.h⟩
theorem W.cT {c : Code} {t : Nat} {b : Bool} (hc : c = .cond (.tmp t) (cL c) (cR c)) (hv : lk σ.tmps t = some (.bool b)) (hb : b = true) (ht : W P Q (cL c) fs σ) : W P Q c fs σ := by
 subst hb
 exact W.condT hc hv ht
theorem W.cF {c : Code} {t : Nat} {b : Bool} (hc : c = .cond (.tmp t) (cL c) (cR c)) (hv : lk σ.tmps t = some (.bool b)) (hb : b = false) (ht : W P Q (cR c) fs σ) : W P Q c fs σ := by
 subst hb
 exact W.condF hc hv ht
theorem TEq.push {ts : NL AV} {t : Nat} {x : AV} (h : lk ts t = some x) : TEq ((t,x) :: ts) ts := fun u => by
 simp only [lk]
 split
 · rename_i e; rw [← e,h]
 · rfl
theorem N.teq {σ' : AS} (hn : σ'.n = σ.n) (ht : TEq σ'.tmps σ.tmps) (hh : σ'.heap = σ.heap) : ∀ {fs : List Fr} (_ : seqFr fs = true) (_ : N P Q fs σ'),N P Q fs σ
 | .seq y :: fs,_,h=>⟨WP.weak (σ' := σ') ⟨hn,fun t x hx=>⟨x,by rw [← ht t]; exact hx,fun _ _ h=>h⟩,fun id=>by rw [hh]⟩ h.h⟩
 | .blk id :: fs,hf,h=>⟨(N.teq (fs:=fs) hn ht hh hf ⟨h.h⟩).h⟩
theorem RW.gS {d : Bool} {n t : Nat} {ts : NL AV} {H : NL ABlk} {b : Bool} (hq : seqFr fs = true) (ht : headG ops l = some t) (hk : kn.contains t = false) (hv : lk ts t = some (.bool b))
   (hT : b = true → RW P Q specs ops d fs (t :: kn) acc B l ⟨n,(t, .bool true) :: ts,H⟩) (hF : b = false → RW P Q specs ops d fs (t :: kn) acc B l ⟨n,(t, .bool false) :: ts,H⟩) : RW P Q specs ops d fs kn acc B l ⟨n,ts,H⟩:=by
 have go : RW P Q specs ops d fs (t :: kn) acc B l ⟨n,(t, .bool b) :: ts,H⟩ → RW P Q specs ops d fs kn acc B l ⟨n,ts,H⟩:=fun h=>by
   obtain ⟨σ',fps,h1,h2,h3⟩:=h.h
   obtain ⟨us,h4,h5⟩:=runF_congr l (TEq.push hv) h1
   exact ⟨_,fps,h4,h2,fun hB hA=>N.teq (σ:=⟨σ'.n,us, σ'.heap⟩) (σ' := σ') rfl h5 rfl hq (h3 hB hA)⟩
 cases b with
 | true=>exact go (hT rfl)
 | false=>exact go (hF rfl)
end
structure RV (P : Program) (Q : AS → Prop) (specs : NL Spec) (ops : Array Oper) (draw : Bool) (fs : List Fr) (kn : List Nat) (acc : List (List Nat × List Nat)) (B : Prop) (l : List Oper) (σ : AS) : Prop where
 h : ∃ σ' fps,runF P (specOf specs) 0 ops l σ = some (σ',fps) ∧ (draw = true → drawOK ops (acc ++ fps.map fun f=>(f.rd,f.wr)) = true) ∧ (B → asAll fps → NV P Q fs σ')
section
variable {Q : AS → Prop} {specs : NL Spec} {ops : Array Oper} {fs : List Fr} {kn : List Nat} {acc : List (List Nat × List Nat)} {B : Prop} {l : List Oper} {σ : AS}
theorem V.reg {c : Code} {id : Nat} {d : Bool} (hm : P.follows .mixedOrders = true) (hsp : ∀ p ∈ specs,FnC P p.1 p.2.fn) (hc : c = .region id ops d) (h : RV P Q specs ops d fs [] [] True ops.toList σ) : V P Q c fs σ := by
 obtain ⟨σ',fps,h1,h2,h3⟩:=h.h
 cases d with
 | false =>
   obtain ⟨A,h4,h5⟩:=runL_runF _ h1
   exact V.region hm hsp hc h4 fun hA=>h3 trivial (h5 hA)
 | true=>exact V.regionD hm hsp hc h1 rfl (by simpa using h2 rfl) (h3 trivial)
theorem RV.done (h : B → NV P Q fs σ) : RV P Q specs ops false fs kn acc B [] σ := ⟨σ,[],rfl,(fun e => by cases e),fun hB _ => h hB⟩
theorem RV.doneD (hd : drawOK ops acc = true) (h : B → NV P Q fs σ) : RV P Q specs ops true fs kn acc B [] σ := ⟨σ,[],rfl,fun _ => by simpa using hd,fun hB _ => h hB⟩
theorem RV.donz (h : NV P Q fs σ) : RV P Q specs ops false fs kn acc B [] σ := RV.done fun _ => h
theorem RV.donzD (hd : drawOK ops acc = true) (h : NV P Q fs σ) : RV P Q specs ops true fs kn acc B [] σ := RV.doneD hd fun _ => h
theorem RV.run {d : Bool} {σ1 : AS} {f1 : List FP} {rest : List Oper} {acc' : List (List Nat × List Nat)} (hp : headStop ops kn l = false) (hr : runG P (specOf specs) 0 ops kn l σ = some (σ1,f1,rest)) (ha : acc ++ (f1.map fun f => (f.rd,f.wr)) = acc') (h : RV P Q specs ops d fs kn acc' (B ∧ asAll f1) rest σ1) : RV P Q specs ops d fs kn acc B l σ := by
 obtain ⟨σ',fps,h1,h2,h3⟩:=h.h
 refine ⟨σ',f1 ++ fps,runG_F l hr h1,fun e=>?_,fun hB hh=>h3 ⟨hB,(asAll_append _ _ hh).1⟩ (asAll_append _ _ hh).2⟩
 rw [List.map_append, ← List.append_assoc,ha]
 exact h2 e
theorem RV.runL {σ1 : AS} {f1 : List FP} {rest : List Oper} (hp : headStop ops kn l = false) (hr : runG P (specOf specs) 0 ops kn l σ = some (σ1,f1,rest)) (h : RV P Q specs ops false fs kn [] (B ∧ asAll f1) rest σ1) : RV P Q specs ops false fs kn acc B l σ := by
 obtain ⟨σ',fps,h1,h2,h3⟩:=h.h
 exact ⟨σ',f1 ++ fps,runG_F l hr h1,(fun e=>by cases e),fun hB hh=>h3 ⟨hB,(asAll_append _ _ hh).1⟩ (asAll_append _ _ hh).2⟩
theorem RV.gU {d : Bool} {t : Nat} {xs : List AV} (ht : headG ops l = some t) (hk : kn.contains t = false) (hv : lk σ.tmps t = some (.tup xs)) (h : RV P Q specs ops d fs (t :: kn) acc B l σ) : RV P Q specs ops d fs kn acc B l σ := ⟨h.h⟩
theorem RV.hT {d : Bool} {t : Nat} {b : Bool} (ht : headG ops l = some t) (hk : kn.contains t = false) (hv : lk σ.tmps t = some (.bool b)) (hb : b = true) (h : RV P Q specs ops d fs (t :: kn) acc B l σ) : RV P Q specs ops d fs kn acc B l σ := ⟨h.h⟩
theorem RV.hF {d : Bool} {t : Nat} {b : Bool} (ht : headG ops l = some t) (hk : kn.contains t = false) (hv : lk σ.tmps t = some (.bool b)) (hb : b = false) (h : RV P Q specs ops d fs (t :: kn) acc B l σ) : RV P Q specs ops d fs kn acc B l σ := ⟨h.h⟩
theorem V.cT {c : Code} {t : Nat} {b : Bool} (hc : c = .cond (.tmp t) (cL c) (cR c)) (hv : lk σ.tmps t = some (.bool b)) (hb : b = true) (ht : V P Q (cL c) fs σ) : V P Q c fs σ := by
 subst hb
 exact V.condT hc hv ht
theorem V.cF {c : Code} {t : Nat} {b : Bool} (hc : c = .cond (.tmp t) (cL c) (cR c)) (hv : lk σ.tmps t = some (.bool b)) (hb : b = false) (ht : V P Q (cR c) fs σ) : V P Q c fs σ := by
 subst hb
 exact V.condF hc hv ht
theorem NV.teq {σ' : AS} (hn : σ'.n = σ.n) (ht : TEq σ'.tmps σ.tmps) (hh : σ'.heap = σ.heap) : ∀ {fs : List Fr} (_ : seqFr fs = true) (_ : NV P Q fs σ'),NV P Q fs σ
 | .seq y :: fs,_,h=>⟨VP.weak (σ' := σ') ⟨hn,fun t x hx=>⟨x,by rw [← ht t]; exact hx,fun _ _ h=>h⟩,fun id=>by rw [hh]⟩ h.h⟩
 | .blk id :: fs,hf,h=>⟨(NV.teq (fs:=fs) hn ht hh hf ⟨h.h⟩).h⟩
theorem RV.gS {d : Bool} {n t : Nat} {ts : NL AV} {H : NL ABlk} {b : Bool} (hq : seqFr fs = true) (ht : headG ops l = some t) (hk : kn.contains t = false) (hv : lk ts t = some (.bool b))
   (hT : b = true → RV P Q specs ops d fs (t :: kn) acc B l ⟨n,(t, .bool true) :: ts,H⟩) (hF : b = false → RV P Q specs ops d fs (t :: kn) acc B l ⟨n,(t, .bool false) :: ts,H⟩) : RV P Q specs ops d fs kn acc B l ⟨n,ts,H⟩:=by
 have go : RV P Q specs ops d fs (t :: kn) acc B l ⟨n,(t, .bool b) :: ts,H⟩ → RV P Q specs ops d fs kn acc B l ⟨n,ts,H⟩:=fun h=>by
   obtain ⟨σ',fps,h1,h2,h3⟩:=h.h
   obtain ⟨us,h4,h5⟩:=runF_congr l (TEq.push hv) h1
   exact ⟨_,fps,h4,h2,fun hB hA=>NV.teq (σ:=⟨σ'.n,us, σ'.heap⟩) (σ' := σ') rfl h5 rfl hq (h3 hB hA)⟩
 cases b with
 | true=>exact go (hT rfl)
 | false=>exact go (hF rfl)
end
end
end Go.Abs
namespace Go.Abs
open Go
set_option linter.unusedVariables false
section
variable {P : Program} {Q : AS → Prop} {c : Code} {fs : List Fr} {σ : AS}
theorem Za {y : Code} (h : W P Q y fs σ) : N P Q (.seq y :: fs) σ := N.seq h
theorem Zb {id : Nat} (h : N P Q fs σ) : N P Q (.blk id :: fs) σ := N.blk h
theorem Zc (h : W P Q (cL c) (.seq (cR c) :: fs) σ) (hc : c = .seq (cL c) (cR c) := by exact rfl) : W P Q c fs σ := W.seq hc h
theorem Zd {id : Nat} (h : W P Q (cL c) (.blk id :: fs) σ) (hc : c = .block id (cL c) := by exact rfl) : W P Q c fs σ := W.block hc h
theorem Ze (h : N P Q fs σ) (hc : c = .skip := by exact rfl) : W P Q c fs σ := W.skip hc h
theorem Zf (h : Q σ) (hc : c = .ret := by exact rfl) : W P Q c fs σ := W.ret hc h
theorem Zg (h : Q σ) : N P Q [] σ := N.nil h
theorem Zh {b : AS → Prop} (h : b σ) : N P Q (.loop b :: fs) σ := N.loop h
theorem Zi {i : Nat} (h : X P Q i fs σ) (hc : c = .exit i := by exact rfl) : W P Q c fs σ := W.exit hc h
theorem Zj {i : Nat} {y : Code} (h : X P Q i fs σ) : X P Q i (.seq y :: fs) σ := X.seq h
theorem Zk {i : Nat} {b : AS → Prop} (h : X P Q i fs σ) : X P Q i (.loop b :: fs) σ := X.loop h
theorem Zl {i : Nat} (h : N P Q fs σ) : X P Q i (.blk i :: fs) σ := X.hit h
theorem Zm {i j : Nat} (h : X P Q i fs σ) (hne : i ≠ j := by decide) : X P Q i (.blk j :: fs) σ := X.pass hne h
theorem Zn {t : Nat} {b : Bool} (h : W P Q (cL c) fs σ) (hc : c = .cond (.tmp t) (cL c) (cR c) := by exact rfl) (hv : lk σ.tmps t = some (.bool b) := by exact rfl) (hb : b = true := by with_reducible rfl) : W P Q c fs σ := W.cT hc hv hb h
theorem Zo {t : Nat} {b : Bool} (h : W P Q (cR c) fs σ) (hc : c = .cond (.tmp t) (cL c) (cR c) := by exact rfl) (hv : lk σ.tmps t = some (.bool b) := by exact rfl) (hb : b = false := by with_reducible rfl) : W P Q c fs σ := W.cF hc hv hb h
theorem Zp {t : Nat} (h : W P Q (cL c) fs σ) (hc : c = .cond (.tmp t) (cL c) (cR c) := by exact rfl) (hv : lk σ.tmps t = some (.bool true) := by exact rfl) : W P Q c fs σ := W.condT hc hv h
theorem Zq {t : Nat} (h : W P Q (cR c) fs σ) (hc : c = .cond (.tmp t) (cL c) (cR c) := by exact rfl) (hv : lk σ.tmps t = some (.bool false) := by exact rfl) : W P Q c fs σ := W.condF hc hv h
theorem ZA {t : Nat} {b : Bool} (ht : b = true → W P Q (cL c) fs σ) (hf : b = false → W P Q (cR c) fs σ) (hc : c = .cond (.tmp t) (cL c) (cR c) := by exact rfl) (hv : lk σ.tmps t = some (.bool b) := by exact rfl) : W P Q c fs σ := W.cond hc hv ht hf
variable {specs : NL Spec} {ops : Array Oper} {kn : List Nat} {acc : List (List Nat × List Nat)} {B : Prop} {l : List Oper}
theorem ZB {id : Nat} {d : Bool} (hm : P.follows .mixedOrders = true) (hsp : ∀ p ∈ specs,FnC P p.1 p.2.fn) (h : RW P Q specs ops d fs [] [] True ops.toList σ) (hc : c = .region id ops d := by exact rfl) : W P Q c fs σ := W.reg hm hsp hc h
theorem ZC (h : N P Q fs σ) : RW P Q specs ops false fs kn acc B [] σ := RW.donz h
theorem ZD (h : N P Q fs σ) (hd : drawOK ops acc = true := by kernel_rfl) : RW P Q specs ops true fs kn acc B [] σ := RW.donzD hd h
theorem ZE {d : Bool} {t : Nat} {b : Bool} (h : RW P Q specs ops d fs (t :: kn) acc B l σ) (ht : headG ops l = some t := by exact rfl) (hk : kn.contains t = false := by exact rfl) (hv : lk σ.tmps t = some (.bool b) := by exact rfl) (hb : b = true := by with_reducible rfl) : RW P Q specs ops d fs kn acc B l σ := RW.hT ht hk hv hb h
theorem ZF {d : Bool} {t : Nat} {b : Bool} (h : RW P Q specs ops d fs (t :: kn) acc B l σ) (ht : headG ops l = some t := by exact rfl) (hk : kn.contains t = false := by exact rfl) (hv : lk σ.tmps t = some (.bool b) := by exact rfl) (hb : b = false := by with_reducible rfl) : RW P Q specs ops d fs kn acc B l σ := RW.hF ht hk hv hb h
theorem ZG {d : Bool} {t : Nat} {xs : List AV} (h : RW P Q specs ops d fs (t :: kn) acc B l σ) (ht : headG ops l = some t := by exact rfl) (hk : kn.contains t = false := by exact rfl) (hv : lk σ.tmps t = some (.tup xs) := by exact rfl) : RW P Q specs ops d fs kn acc B l σ := RW.gU ht hk hv h
theorem ZH {d : Bool} {n t : Nat} {ts : NL AV} {H : NL ABlk} {b : Bool} (hT : b = true → RW P Q specs ops d fs (t :: kn) acc B l ⟨n,(t, .bool true) :: ts,H⟩) (hF : b = false → RW P Q specs ops d fs (t :: kn) acc B l ⟨n,(t, .bool false) :: ts,H⟩)
   (hq : seqFr fs = true:=by exact rfl) (ht : headG ops l = some t:=by exact rfl) (hk : kn.contains t = false:=by exact rfl) (hv : lk ts t = some (.bool b):=by exact rfl) : RW P Q specs ops d fs kn acc B l ⟨n,ts,H⟩:=RW.gS hq ht hk hv hT hF
theorem ZK {id : Nat} {σ' : AS} {A : Prop} (hm : P.follows .mixedOrders = true) (hsp : ∀ p ∈ specs,FnC P p.1 p.2.fn) (hc : c = .region id ops false) (hr : runL P (specOf specs) 0 ops ops.toList σ = some (σ',A)) (h : A → N P Q fs σ') : W P Q c fs σ := W.region hm hsp hc hr h
theorem ZL {id : Nat} {σ' : AS} {fps : List FP} {rw' : List (List Nat × List Nat)} (hm : P.follows .mixedOrders = true) (hsp : ∀ p ∈ specs,FnC P p.1 p.2.fn) (hc : c = .region id ops true) (hr : runF P (specOf specs) 0 ops ops.toList σ = some (σ',fps)) (h : asAll fps → N P Q fs σ') (hrw : (fps.map fun f => (f.rd,f.wr)) = rw' := by conv => lhs; simp) (ho : drawOK ops rw' = true := by kernel_rfl) : W P Q c fs σ := W.regionD hm hsp hc hr hrw ho h
inductive RunAcc : Bool → List (List Nat × List Nat) → List FP → List (List Nat × List Nat) → Prop
 | lin {acc : List (List Nat × List Nat)} {f1 : List FP} : RunAcc false acc f1 []
 | drw {d : Bool} {acc : List (List Nat × List Nat)} {f1 : List FP} {acc' : List (List Nat × List Nat)} (h : acc ++ (f1.map fun f=>(f.rd,f.wr)) = acc') : RunAcc d acc f1 acc'
theorem ZJ {d : Bool} {σ1 : AS} {f1 : List FP} {rest : List Oper} {acc' : List (List Nat × List Nat)} (hr : runG P (specOf specs) 0 ops kn l σ = some (σ1,f1,rest)) (h : RW P Q specs ops d fs kn acc' (B ∧ asAll f1) rest σ1) (hp : headStop ops kn l = false := by exact rfl)
   (ha : RunAcc d acc f1 acc':=by first | exact RunAcc.lin | exact RunAcc.drw (by simp; rfl)) : RW P Q specs ops d fs kn acc B l σ:=by
 cases ha with
 | lin=>exact RW.runL hp hr h
 | drw ha=>exact RW.run hp hr ha h
theorem ZS {R G : Prop} (g : G) (h : G → R := by (intro g; (first | refine Za ?_ | refine Zb ?_ | refine Zc ?_ | refine Zd ?_ | refine Ze ?_ | refine Zf ?_ | refine Zg ?_ | refine Zh ?_ | refine Zi ?_ | refine Zj ?_ | refine Zk ?_ | refine Zl ?_ | refine Zm ?_ | refine Zp ?_ | refine Zq ?_); (repeat (first | refine Za ?_ | refine Zb ?_ | refine Zc ?_ | refine Zd ?_ | refine Ze ?_ | refine Zf ?_ | refine Zg ?_ | refine Zh ?_ | refine Zi ?_ | refine Zj ?_ | refine Zk ?_ | refine Zl ?_ | refine Zm ?_ | refine Zp ?_ | refine Zq ?_)); exact g)) : R := h g
theorem ZT {R G : Prop} (g : G) (h : G → R := by (intro g; (first | refine Za ?_ | refine Zb ?_ | refine Zc ?_ | refine Zd ?_ | refine Ze ?_ | refine Zf ?_ | refine Zg ?_ | refine Zh ?_ | refine Zi ?_ | refine Zj ?_ | refine Zk ?_ | refine Zl ?_ | refine Zm ?_); (repeat (first | refine Za ?_ | refine Zb ?_ | refine Zc ?_ | refine Zd ?_ | refine Ze ?_ | refine Zf ?_ | refine Zg ?_ | refine Zh ?_ | refine Zi ?_ | refine Zj ?_ | refine Zk ?_ | refine Zl ?_ | refine Zm ?_)); exact g)) : R := h g
theorem ZV {R G : Prop} (g : G) (h : G → R := by (intro g; (first | refine Za ?_ | refine Zb ?_ | refine Zc ?_ | refine Zd ?_ | refine Ze ?_ | refine Zf ?_ | refine Zg ?_ | refine Zh ?_ | refine Zi ?_ | refine Zj ?_ | refine Zk ?_ | refine Zl ?_ | refine Zm ?_ | refine Zn ?_ | refine Zo ?_ | refine ZC ?_ | refine ZD ?_ | refine ZE ?_ | refine ZF ?_ | refine ZG ?_); (repeat (first | refine Za ?_ | refine Zb ?_ | refine Zc ?_ | refine Zd ?_ | refine Ze ?_ | refine Zf ?_ | refine Zg ?_ | refine Zh ?_ | refine Zi ?_ | refine Zj ?_ | refine Zk ?_ | refine Zl ?_ | refine Zm ?_ | refine Zn ?_ | refine Zo ?_ | refine ZC ?_ | refine ZD ?_ | refine ZE ?_ | refine ZF ?_ | refine ZG ?_)); exact g)) : R := h g
theorem YS {R G : Prop} (g : G) (h : G → R := by (intro g; (first | refine NV.seq ?_ | refine NV.blk ?_ | refine V.seq rfl ?_ | refine V.block rfl ?_ | refine V.skip rfl ?_ | refine V.ret rfl ?_ | refine NV.nil ?_ | refine NV.loop ?_ | refine V.exit rfl ?_ | refine XV.seq ?_ | refine XV.loop ?_ | refine XV.hit ?_ | refine XV.pass (by decide) ?_ | refine V.condT rfl (by rfl) ?_ | refine V.condF rfl (by rfl) ?_); (repeat (first | refine NV.seq ?_ | refine NV.blk ?_ | refine V.seq rfl ?_ | refine V.block rfl ?_ | refine V.skip rfl ?_ | refine V.ret rfl ?_ | refine NV.nil ?_ | refine NV.loop ?_ | refine V.exit rfl ?_ | refine XV.seq ?_ | refine XV.loop ?_ | refine XV.hit ?_ | refine XV.pass (by decide) ?_ | refine V.condT rfl (by rfl) ?_ | refine V.condF rfl (by rfl) ?_)); exact g)) : R := h g
theorem YU {R G : Prop} (g : G) (h : G → R := by (intro g; (first | refine NV.seq ?_ | refine NV.blk ?_ | refine V.seq rfl ?_ | refine V.block rfl ?_ | refine V.skip rfl ?_ | refine NV.nil ?_ | refine NV.loop ?_ | refine V.exit rfl ?_ | refine XV.seq ?_ | refine XV.loop ?_ | refine XV.hit ?_ | refine XV.pass (by decide) ?_ | refine V.condT rfl (by rfl) ?_ | refine V.condF rfl (by rfl) ?_); (repeat (first | refine NV.seq ?_ | refine NV.blk ?_ | refine V.seq rfl ?_ | refine V.block rfl ?_ | refine V.skip rfl ?_ | refine NV.nil ?_ | refine NV.loop ?_ | refine V.exit rfl ?_ | refine XV.seq ?_ | refine XV.loop ?_ | refine XV.hit ?_ | refine XV.pass (by decide) ?_ | refine V.condT rfl (by rfl) ?_ | refine V.condF rfl (by rfl) ?_)); exact g)) : R := h g
theorem YL {id : Nat} {σ' : AS} {fps : List FP} {rw' : List (List Nat × List Nat)} (hm : P.follows .mixedOrders = true) (hsp : ∀ p ∈ specs,FnC P p.1 p.2.fn) (hc : c = .region id ops true) (hr : runF P (specOf specs) 0 ops ops.toList σ = some (σ',fps)) (h : asAll fps → NV P Q fs σ') (hrw : (fps.map fun f => (f.rd,f.wr)) = rw' := by conv => lhs; simp) (ho : drawOK ops rw' = true := by kernel_rfl) : V P Q c fs σ := V.regionD hm hsp hc hr hrw ho h
theorem Ym {fn : Func} {k : Nat} {r : AV} {B : List ABlk} (exp gs : List Nat) (h : retM2 P fn k false exp gs σ = some (r,B.map some) := by simp [retM2,movedOK,oldOK,frqT,frqV,frqVs,frqL,frq1,expG,expB3,renB,AV.ren,renL,List.range,List.range.loop,resVs,resV,pack,List.zipWith,List.idxOf?,List.findIdx?,List.findIdx?.go]) : RetM P fn k r B σ := retM2_ok false exp gs h
theorem YP {fn : Func} {k g n t elem size : Nat} {r : AV} {rows : List (List AV)} {B : List ABlk} {ts : NL AV} {H : NL ABlk} (id : Nat) (h : V P (RetM P fn k r (rowB elem size g rows :: B)) c fs ⟨n,(t, .sl id 0 0 0) :: ts,(id, { gen := 0,kind := 2,elem,size,inl := true,rows := [] }) :: H⟩) (ht : lk ts t = some .nils := by exact rfl) (hid : lk H id = none := by exact rfl) (h0 : 0 < size := by decide) : V P (RetM P fn k r (rowB elem size g rows :: B)) c fs ⟨n,ts,H⟩ := V.phantom id elem size ht hid h0 h
theorem YQ {fn : Func} {k g n t elem size : Nat} {r : AV} {rows : List (List AV)} {b : ABlk} {B : List ABlk} {ts : NL AV} {H : NL ABlk} (id : Nat) (h : V P (RetM P fn k r (b :: rowB elem size g rows :: B)) c fs ⟨n,(t, .sl id 0 0 0) :: ts,(id, { gen := 0,kind := 2,elem,size,inl := true,rows := [] }) :: H⟩) (ht : lk ts t = some .nils := by exact rfl) (hid : lk H id = none := by exact rfl) (h0 : 0 < size := by decide) : V P (RetM P fn k r (b :: rowB elem size g rows :: B)) c fs ⟨n,ts,H⟩ := V.phantom id elem size ht hid h0 h
theorem Yr {fn : Func} {r : AV} {xs : List AV} {H : NL ABlk} {rd wr : List Nat} {A : Prop} {rs : List ResultVar} (h0 : fn.results.toList = rs := by exact rfl) (h1 : resVs P σ rs = some xs := by conv => lhs; simp) (h2 : frzTR (pack xs) σ.heap = some ⟨r,H,rd,wr,A⟩ := by conv => lhs; simp) (h3 : inlT r = true := by first | rfl | simp [inlT,inlV]) : Ret P fn r [] σ := Ret.dataR h0 h1 h2 h3
theorem Yd {fn : Func} {r r0 : AV} {xs : List AV} {H : NL ABlk} {rd wr : List Nat} {A : Prop} {rs : List ResultVar} (h4 : r0 = r) (h0 : fn.results.toList = rs := by exact rfl) (h1 : resVs P σ rs = some xs := by conv => lhs; simp) (h2 : frzTR (pack xs) σ.heap = some ⟨r0,H,rd,wr,A⟩ := by conv => lhs; simp) (h3 : inlT r0 = true := by first | rfl | simp [inlT,inlV]) : Ret P fn r [] σ := Ret.dataE h0 h1 h2 h3 h4
theorem Ye {fn : Func} {ty : List TypeId} {r r0 : AV} {xs : List AV} {H : NL ABlk} {rd wr : List Nat} {A : Prop} {rs : List ResultVar} (h4 : nrmR P ty r0 = r) (h0 : fn.results.toList = rs := by exact rfl) (h1 : resVs P σ rs = some xs := by conv => lhs; simp) (h2 : frzTR (pack xs) σ.heap = some ⟨r0,H,rd,wr,A⟩ := by conv => lhs; simp) (h3 : inlT r0 = true := by first | rfl | simp [inlT,inlV]) : RetNf P fn ty r [] σ := RetNf.dataE h0 h1 h2 h3 h4
end
end Go.Abs
