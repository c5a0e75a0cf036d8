/- The reference of networks: links, their order, and valid ones. Conditions: none. -/
import Derived.Test.YtmcbpehpogjmoaaNp5
import Derived.Test.YtmcbpehpogjmoaaAb9
import Derived.Test.YtmcbpehpogjmoaaNp4
namespace Go.Abs.Np
open Go Go.Proofs Go.Abs
set_option maxRecDepth 100000
set_option maxHeartbeats 4000000
set_option linter.unusedSimpArgs false
set_option linter.unusedVariables false
section
structure Lk where
 fr : Int
 to : Int
 cut : Bool
 q : List Msg
def lkC (l : Lk) : List AV := [.int .i64 l.fr, .int .i64 l.to, .bool l.cut, .list 45 (l.q.map Msg.v)]
theorem msgv_inj {l m : List Msg} (h : l.map Msg.v = m.map Msg.v) : l = m := map_inj' (fun a b h => by
 obtain ⟨a1,a2,a3,a4,a5,o,a6,a7,a8,a9⟩:=a
 obtain ⟨b1,b2,b3,b4,b5,p,b6,b7,b8,b9⟩:=b
 simp only [Msg.v,List.cons.injEq,AV.int.injEq,true_and] at h
 obtain ⟨rfl,rfl,rfl,rfl,rfl,h⟩:=h
 obtain ⟨h1,h2⟩:=List.append_inj h (by simp)
 simp only [List.cons.injEq,AV.int.injEq,true_and,and_true] at h2
 obtain ⟨rfl,rfl,rfl,rfl⟩:=h2
 rw [Td.ext h1]) h
theorem lkC_inj {s t : Lk} (h : lkC s = lkC t) : s = t := by
 obtain ⟨a,b,c,q⟩:=s
 obtain ⟨a',b',c',q'⟩:=t
 simp only [lkC,List.cons.injEq,AV.int.injEq,AV.bool.injEq,AV.list.injEq,true_and,and_true] at h
 obtain ⟨rfl,rfl,rfl,h⟩:=h
 rw [msgv_inj h]
theorem lks_inj {l m : List Lk} (h : l.map lkC = m.map lkC) : l = m := map_inj' (fun a b h => lkC_inj h) h
def okK (l : Lk) : Prop := l.q.length ≤ 9000
structure Nts where
 ls : List Lk
 bd : ls.length ≤ 9000
 bq : ∀ l ∈ ls,okK l
def Nts.v (d : Nts) : AV := .agg [.list 4 (d.ls.map lkC)]
theorem Nts.v_inj {s t : Nts} (h : s.v = t.v) : s = t := by
 obtain ⟨l,b,c⟩:=s
 obtain ⟨l',b',c'⟩:=t
 simp only [Nts.v,AV.agg.injEq,List.cons.injEq,AV.list.injEq,true_and,and_true] at h
 cases lks_inj h
 rfl
def befB (l : Lk) (f t : Int) : Bool := decide (l.fr < f) || (l.fr == f && decide (l.to < t))
noncomputable def befS : SpecFn := mkS (fun d : {l : Lk // okK l} × Int × Int => [.agg (lkC d.1.1), .int .i64 d.2.1, .int .i64 d.2.2]) fun d => (.bool (befB d.1.1 d.2.1 d.2.2),[])
theorem befS_eq (l : Lk) (h : okK l) (f t : Int) : befS [.agg (lkC l), .int .i64 f, .int .i64 t] [] = some (.bool (befB l f t),[]) :=
 mkS_eq (enc:=fun d : {l : Lk // okK l} × Int × Int=>[AV.agg (lkC d.1.1), .int .i64 d.2.1, .int .i64 d.2.2]) (res:=fun d=>(.bool (befB d.1.1 d.2.1 d.2.2),[])) (fun x y h=>by
   obtain ⟨a,b,c⟩:=x
   obtain ⟨a',b',c'⟩:=y
   simp only [List.cons.injEq,AV.agg.injEq,AV.int.injEq,true_and,and_true] at h
   obtain ⟨h1,rfl,rfl⟩:=h
   rw [lkC_inj h1]) (⟨l,h⟩,f,t)
attribute [local simp] instA slice3A slice3C
attribute [-simp] mkv
attribute [local simp] mkv_hd hdA_cons hdA_ob hdA_ob'
theorem bef_ok : FnC Try.prog 77 befS := by
 refine FnC.walk 77 (fn:=Try.f77) Try.func77 rfl (by kernel_rfl) fun d=>?_
 obtain ⟨⟨⟨a,b,c,q⟩,hl⟩,f,t⟩:=d
 change W _ (Ret _ _ (.bool (decide (a < f) || (a == f && decide (b < t)))) []) _ _ ⟨23,[(0, .agg [.int .i64 a, .int .i64 b, .bool c, .list 45 (q.map Msg.v)]),(1, .int .i64 f),(2, .int .i64 t)],[]⟩
 repeat' (first | intro (hb : _ = _) | refine ZV ?_ | refine ZB tm no_specs ?_ | refine ZH ?_ ?_ | refine ZJ (by conv=>lhs; simp) ?_ | refine ZA ?_ ?_)
 all_goals (first | refine Yd ?_ | refine Ye ?_)
 all_goals (first | rfl | (simp; done) | (simp_all; done) | (simp_all; omega))
theorem nnode_ok : FnC Try.prog 58 (boS okN) := by
 refine FnC.walk 58 (fn:=Try.f58) Try.func58 rfl (by kernel_rfl) fun m=>?_
 change W _ (Ret _ _ (.bool (okN m)) []) _ _ ⟨9,[(0, .int .i64 m)],[]⟩
 repeat' (first | intro (hb : _ = _) | refine ZV ?_ | refine ZB tm no_specs ?_ | refine ZH ?_ ?_ | refine ZJ (by conv=>lhs; simp) ?_ | refine ZA ?_ ?_)
 all_goals (first | refine Yd ?_ | refine Ye ?_)
 all_goals (first | rfl | (simp [okN]; done) | (simp_all [okN]; done) | (simp_all [okN]; omega))
def lkB (l : Lk) : Bool := okN l.fr && (okN l.to && (decide (l.q.length ≤ 4096) && (l.cut || !l.q.isEmpty)))
def goodK (l : List Lk) (j : Nat) : Bool := match l[j]? with
 | none=>true
 | some t=>lkB t && (t.q.all (fun m=>m.fr == t.fr && m.to == t.to) && match j with
   | 0=>true
   | i + 1=>match l[i]? with
     | some s=>befB s t.fr t.to
     | none=>true)
def validK (l : List Lk) : Bool := (List.range l.length).all (goodK l)
theorem validK_no {l : List Lk} {k : Nat} (h : k < l.length) (hg : goodK l k = false) : validK l = false := by
 unfold validK
 rw [List.all_eq_false]
 exact ⟨k,List.mem_range.2 h,by simp [hg]⟩
theorem validK_yes {l : List Lk} (h : ∀ k,k < l.length → goodK l k = true) : validK l = true := by
 unfold validK
 rw [List.all_eq_true]
 exact fun k hk=>h k (List.mem_range.1 hk)
noncomputable def vkS : SpecFn := mkS (fun d : Nts => [d.v]) fun d => (.bool (validK d.ls),[])
theorem vkS_eq (d : Nts) : vkS [d.v] [] = some (.bool (validK d.ls),[]) :=
 mkS_eq (enc:=fun d : Nts=>[d.v]) (fun x y h=>by
   simp only [List.cons.injEq,and_true] at h
   cases Nts.v_inj h
   rfl) d
noncomputable def rvk_specs21 : NL Spec := [(58,⟨1,boS okN⟩),(77,⟨1,befS⟩)]
theorem rvk_specs21_ok : ∀ p ∈ rvk_specs21,FnC Try.prog p.1 p.2.fn := by
 simp only [rvk_specs21,List.mem_cons,List.not_mem_nil,or_false]
 rintro p (rfl | rfl)
 · exact nnode_ok
 · exact bef_ok
attribute [local simp] rvk_specs21
theorem rvk21_ok : FnC Try.prog 57 vkS := by
 refine FnC.walk 57 (fn:=Try.f57) Try.func57 rfl (by kernel_rfl) fun d=>?_
 obtain ⟨l,hl,he⟩:=d
 change W _ (Ret _ _ (.bool (validK l)) []) _ _ ⟨79,[(0, .agg [.list 4 (l.map lkC)])],[]⟩
 have cap : l.length ≤ 9223372036854775807:=by omega
 repeat' (first | intro (hb : _ = _) | refine ZV ?_ | refine ZB tm rvk_specs21_ok ?_ | refine ZH ?_ ?_ | refine ZJ (by conv=>lhs; simp [cap]) ?_ | refine ZA ?_ ?_)
 refine W.loop rfl (ι:={ q : Nat × NL ABlk // q.1 ≤ l.length ∧ (∀ j,j < q.1 → goodK l j = true) ∧ lk q.2 32 = some { gen:=1,kind:=2,elem:=34,size:=1,inl:=false,rows:=[[.list 4 (l.map lkC)]] } })
   (fun q=>⟨79,[(1, .ptr 32 1 0 0),(8, .list 4 (l.map lkC)),(9, .int .i64 l.length),(10, .int .i64 (q.1.1 : Nat))],q.1.2⟩) (fun q=>l.length - q.1.1)
   ⟨(0,_),by simp,fun j hj=>absurd hj (by simp),rfl⟩ (AS.le_of rfl ⟨rfl,rfl,rfl,rfl,trivial⟩ (fun _=>rfl)) ?_
 rintro ⟨⟨k,h⟩,hk,hg,h1⟩
 dsimp only at hk hg h1 ⊢
 by_cases hk2 : k = l.length
 · subst hk2
   rw [validK_yes hg]
   repeat' (first | intro (hb : _ = _) | refine ZV ?_ | refine ZB tm rvk_specs21_ok ?_ | refine ZH ?_ ?_ | refine ZJ (by conv=>lhs; simp) ?_ | refine ZA ?_ ?_)
   all_goals (first | refine Yd ?_ | refine Ye ?_)
   all_goals (first | rfl | (simp; done) | (simp_all; done) | (simp_all; omega))
 · have hlt : k < l.length:=by omega
   obtain ⟨⟨a,b,c,q⟩,hr⟩:=get_lt hlt
   have hm : (l.map lkC)[k]? = some [.int .i64 a, .int .i64 b, .bool c, .list 45 (q.map Msg.v)]:=by rw [List.getElem?_map,hr]; rfl
   have q1 : (k : Int) < l.length:=by omega
   have q2 : ¬ l.length ≤ k:=by omega
   have hw : IntKind.i64.wrap ((k : Int) + 1) = ((k + 1 : Nat) : Int):=w64 (by omega) (by omega)
   have hqb : q.length ≤ 9000:=he _ (List.mem_of_getElem? hr)
   have cq : q.length ≤ 9223372036854775807:=by omega
   have n1:=boS_eq okN a
   have n2:=boS_eq okN b
   cases hb : lkB ⟨a,b,c,q⟩ with
   | false =>
     rw [validK_no hlt (by simp [goodK,hr,hb])]
     clear hg hr he hlt hk2
     unfold lkB at hb
     dsimp only at hb
     generalize okN a = x1 at *
     generalize okN b = x2 at *
     cases x1 with
     | false =>
       clear hb
       repeat' (first | intro (hb : _ = _) | refine ZV ?_ | refine ZB tm rvk_specs21_ok ?_ | refine ZH ?_ ?_ | refine ZJ (by conv=>lhs; simp [q1,q2,hm,n1,n2,cq]) ?_ | refine ZA ?_ ?_)
       all_goals (first | refine Yd ?_ | refine Ye ?_)
       all_goals (first | rfl | (simp; done) | (simp_all; done) | (simp_all; omega))
     | true =>
       cases x2 with
       | false =>
         clear hb
         repeat' (first | intro (hb : _ = _) | refine ZV ?_ | refine ZB tm rvk_specs21_ok ?_ | refine ZH ?_ ?_ | refine ZJ (by conv=>lhs; simp [q1,q2,hm,n1,n2,cq]) ?_ | refine ZA ?_ ?_)
         all_goals (first | refine Yd ?_ | refine Ye ?_)
         all_goals (first | rfl | (simp; done) | (simp_all; done) | (simp_all; omega))
       | true =>
         by_cases h3 : q.length ≤ 4096
         · have c3 : ¬ (4096 : Int) < q.length:=by omega
           have hc : c = false ∧ q = []:=by simpa [h3] using hb
           obtain ⟨rfl,rfl⟩:=hc
           clear hb hqb
           repeat' (first | intro (hb : _ = _) | refine ZV ?_ | refine ZB tm rvk_specs21_ok ?_ | refine ZH ?_ ?_ | refine ZJ (by conv=>lhs; simp [q1,q2,hm,n1,n2,cq,c3]) ?_ | refine ZA ?_ ?_)
           all_goals (first | refine Yd ?_ | refine Ye ?_)
           all_goals (first | rfl | (simp; done) | (simp_all; done) | (simp_all; omega))
         · have c3 : (4096 : Int) < q.length:=by omega
           clear hb
           repeat' (first | intro (hb : _ = _) | refine ZV ?_ | refine ZB tm rvk_specs21_ok ?_ | refine ZH ?_ ?_ | refine ZJ (by conv=>lhs; simp [q1,q2,hm,n1,n2,cq,c3]) ?_ | refine ZA ?_ ?_)
           all_goals (first | refine Yd ?_ | refine Ye ?_)
           all_goals (first | rfl | (simp; done) | (simp_all; done) | (simp_all; omega))
   | true =>
     have hb':=hb
     unfold lkB at hb
     simp only [Bool.and_eq_true,decide_eq_true_eq,Bool.or_eq_true] at hb
     obtain ⟨o1,o2,h3,h4⟩:=hb
     rw [o1] at n1
     rw [o2] at n2
     have c3 : ¬ (4096 : Int) < q.length:=by omega
     have hbad : ∀ m ∈ q, ¬ (m.fr = a ∧ m.to = b) → goodK l k = false:=fun m hmq hne=>by
       have : q.all (fun m=>m.fr == a && m.to == b) = false:=by
         rw [List.all_eq_false]
         exact ⟨m,hmq,by simpa using hne⟩
       unfold goodK
       simp only [hr,this,Bool.false_and,Bool.and_false]
     have hall0 : (∀ m ∈ q,m.fr = a ∧ m.to = b) → q.all (fun m=>m.fr == a && m.to == b) = true:=fun h=>by
       rw [List.all_eq_true]
       exact fun m hm=>by simpa using h m hm
     have hc4 : (c = true ∧ (q.length == 0) = (q.length == 0)) ∨ (c = false ∧ ((q.length : Int) == 0) = false):=by
       cases c with
       | true=>exact .inl ⟨rfl,rfl⟩
       | false =>
         right
         refine ⟨rfl, ?_⟩
         have : q ≠ []:=by rintro rfl; simp at h4
         have:=List.length_pos_iff.2 this
         simp; omega
     have hx : k = 0 ∨ (∃ j s,k = j + 1 ∧ l[j]? = some s ∧ befB s a b = true) ∨ (∃ j s,k = j + 1 ∧ l[j]? = some s ∧ befB s a b = false):=by
       cases k with
       | zero=>exact .inl rfl
       | succ j =>
         right
         obtain ⟨s,hs⟩:=get_lt (l:=l) (i:=j) (by omega)
         cases hbb : befB s a b
         · exact .inr ⟨j,s,rfl,hs,hbb⟩
         · exact .inl ⟨j,s,rfl,hs,hbb⟩
     rcases hx with hk0 | ⟨j0,s,hkj,hs,hbb⟩ | ⟨j0,s,hkj,hs,hbb⟩
     · have q5 : ¬ (0 : Int) < (k : Int):=by omega
       have q6 : ¬ 0 < k:=by omega
       have hgood : (∀ m ∈ q,m.fr = a ∧ m.to = b) → goodK l k = true:=fun h=>by
         have:=hall0 h
         subst hk0
         unfold goodK
         simp only [hr,hb',this,Bool.true_and]
       obtain ⟨G,hG⟩ : ∃ G,((lk h 80).getD { }).gen + 1 = G:=⟨_,rfl⟩
       clear hall0 hk0
       rcases hc4 with ⟨rfl, -⟩ | ⟨rfl,e0⟩
       · repeat' (first | intro (hb : _ = _) | refine ZV ?_ | refine ZB (id:=2) tm rvk_specs21_ok ?_ | refine ZB (id:=3) tm rvk_specs21_ok ?_ | refine ZB (id:=4) tm rvk_specs21_ok ?_ | refine ZB (id:=5) tm rvk_specs21_ok ?_ | refine ZB (id:=6) tm rvk_specs21_ok ?_ | refine ZB (id:=7) tm rvk_specs21_ok ?_ | refine ZB (id:=8) tm rvk_specs21_ok ?_ | refine ZH ?_ ?_ | refine ZJ (by conv=>lhs; simp [q1,q2,hm,n1,n2,cq,c3,q5,q6,hG]) ?_ | refine ZA ?_ ?_)
         refine W.loop rfl (ι:={ x : Nat × NL ABlk // x.1 ≤ q.length ∧ (∀ m ∈ q.take x.1,m.fr = a ∧ m.to = b) ∧ lk x.2 32 = some { gen:=1,kind:=2,elem:=34,size:=1,inl:=false,rows:=[[.list 4 (l.map lkC)]] } ∧ lk x.2 80 = some { gen:=G,kind:=2,elem:=121,size:=4,inl:=false,rows:=[[.int .i64 a, .int .i64 b, .bool true, .list 45 (q.map Msg.v)]] } })
           (fun x=>⟨79,[(1, .ptr 32 1 0 0),(4, .ptr 80 G 0 0),(8, .list 4 (l.map lkC)),(9, .int .i64 l.length),(10, .int .i64 (k : Nat)),(59, .list 45 (q.map Msg.v)),(60, .int .i64 q.length),(61, .int .i64 (x.1.1 : Nat))],x.1.2⟩) (fun x=>q.length - x.1.1)
           ⟨(0,_),by simp,by simp,by simp [lk_st,h1],by simp [lk_st]⟩ (AS.le_of rfl ⟨rfl,rfl,rfl,rfl,rfl,rfl,rfl,rfl,trivial⟩ (fun _=>rfl)) ?_
         clear h1 hG h hm
         rintro ⟨⟨j,h⟩,hj,hall,h1,h4⟩
         dsimp only at hj hall h1 h4 ⊢
         by_cases hj2 : j = q.length
         · subst hj2
           rw [List.take_length] at hall
           have hgk : goodK l k = true:=hgood hall
           have hgn : ∀ j,j < k + 1 → goodK l j = true:=fun j hj=>by
             by_cases e : j = k
             · subst e; exact hgk
             · exact hg j (by omega)
           repeat' (first | intro (hb : _ = _) | refine ZV ?_ | refine ZB tm rvk_specs21_ok ?_ | refine ZH ?_ ?_ | refine ZJ (by conv=>lhs; simp [hw]) ?_ | refine ZA ?_ ?_)
           exact ⟨⟨(k + 1,_),hlt,hgn,by simp [lk_st,h1]⟩,by dsimp only; omega,AS.le_of rfl ⟨rfl,rfl,rfl,rfl,trivial⟩ (fun _=>rfl)⟩
         · have hjl : j < q.length:=by omega
           obtain ⟨m,hrm⟩:=get_lt hjl
           have hmm : (q.map Msg.v)[j]? = some m.v:=by rw [List.getElem?_map,hrm]; rfl
           have p1 : (j : Int) < q.length:=by omega
           have p2 : ¬ q.length ≤ j:=by omega
           have pw : IntKind.i64.wrap ((j : Int) + 1) = ((j + 1 : Nat) : Int):=w64 (by omega) (by omega)
           have hmem:=List.mem_of_getElem? hrm
           by_cases h5 : m.fr = a ∧ m.to = b
           · have hall2 : ∀ m ∈ q.take (j + 1),m.fr = a ∧ m.to = b:=fun y hy=>by
               rw [List.take_add_one,hrm] at hy
               simp only [Option.toList_some,List.mem_append,List.mem_singleton] at hy
               rcases hy with hy | rfl
               · exact hall y hy
               · exact h5
             obtain ⟨h5a,h5b⟩:=h5
             have e1 : (m.fr != a) = false:=by simp [h5a]
             have e2 : (m.to != b) = false:=by simp [h5b]
             obtain ⟨m1,m2,m3,m4,m5,o,m6,m7,m8,m9⟩:=m
             simp only [Msg.v] at hmm
             dsimp only at e1 e2
             clear h5a h5b
             repeat' (first | intro (hb : _ = _) | refine ZV ?_ | refine ZB tm rvk_specs21_ok ?_ | refine ZH ?_ ?_ | refine ZJ (by conv=>lhs; simp [p1,p2,hmm,h4,e1,e2,pw]) ?_ | refine ZA ?_ ?_)
             exact ⟨⟨(j + 1,_),hjl,hall2,by simp [lk_st,h1],by simp [lk_st,h4]⟩,by dsimp only; omega,AS.le_of rfl ⟨rfl,rfl,rfl,rfl,rfl,rfl,rfl,rfl,trivial⟩ (fun _=>rfl)⟩
           · rw [validK_no hlt (hbad m hmem h5)]
             have e3 : (m.fr != a || m.to != b) = true:=by
               by_cases h6 : m.fr = a
               · have : m.to ≠ b:=fun h7=>h5 ⟨h6,h7⟩
                 simp [this]
               · simp [h6]
             obtain ⟨m1,m2,m3,m4,m5,o,m6,m7,m8,m9⟩:=m
             simp only [Msg.v] at hmm
             dsimp only at e3
             by_cases h6 : (m1 != a) = true
             · clear e3 h5
               repeat' (first | intro (hb : _ = _) | refine ZV ?_ | refine ZB tm rvk_specs21_ok ?_ | refine ZH ?_ ?_ | refine ZJ (by conv=>lhs; simp [p1,p2,hmm,h4,h6]) ?_ | refine ZA ?_ ?_)
               all_goals (first | refine Yd ?_ | refine Ye ?_)
               all_goals (first | rfl | (simp; done) | (simp_all; done) | (simp_all; omega))
             · have e1 : (m1 != a) = false:=by simpa using h6
               have e2 : (m2 != b) = true:=by rw [e1] at e3; simpa using e3
               clear e3 h5 h6
               repeat' (first | intro (hb : _ = _) | refine ZV ?_ | refine ZB tm rvk_specs21_ok ?_ | refine ZH ?_ ?_ | refine ZJ (by conv=>lhs; simp [p1,p2,hmm,h4,e1,e2]) ?_ | refine ZA ?_ ?_)
               all_goals (first | refine Yd ?_ | refine Ye ?_)
               all_goals (first | rfl | (simp; done) | (simp_all; done) | (simp_all; omega))
       · repeat' (first | intro (hb : _ = _) | refine ZV ?_ | refine ZB (id:=2) tm rvk_specs21_ok ?_ | refine ZB (id:=3) tm rvk_specs21_ok ?_ | refine ZB (id:=4) tm rvk_specs21_ok ?_ | refine ZB (id:=5) tm rvk_specs21_ok ?_ | refine ZB (id:=6) tm rvk_specs21_ok ?_ | refine ZB (id:=7) tm rvk_specs21_ok ?_ | refine ZB (id:=8) tm rvk_specs21_ok ?_ | refine ZH ?_ ?_ | refine ZJ (by conv=>lhs; simp [q1,q2,hm,n1,n2,cq,c3,q5,q6,e0,hG]) ?_ | refine ZA ?_ ?_)
         refine W.loop rfl (ι:={ x : Nat × NL ABlk // x.1 ≤ q.length ∧ (∀ m ∈ q.take x.1,m.fr = a ∧ m.to = b) ∧ lk x.2 32 = some { gen:=1,kind:=2,elem:=34,size:=1,inl:=false,rows:=[[.list 4 (l.map lkC)]] } ∧ lk x.2 80 = some { gen:=G,kind:=2,elem:=121,size:=4,inl:=false,rows:=[[.int .i64 a, .int .i64 b, .bool false, .list 45 (q.map Msg.v)]] } })
           (fun x=>⟨79,[(1, .ptr 32 1 0 0),(4, .ptr 80 G 0 0),(8, .list 4 (l.map lkC)),(9, .int .i64 l.length),(10, .int .i64 (k : Nat)),(59, .list 45 (q.map Msg.v)),(60, .int .i64 q.length),(61, .int .i64 (x.1.1 : Nat))],x.1.2⟩) (fun x=>q.length - x.1.1)
           ⟨(0,_),by simp,by simp,by simp [lk_st,h1],by simp [lk_st]⟩ (AS.le_of rfl ⟨rfl,rfl,rfl,rfl,rfl,rfl,rfl,rfl,trivial⟩ (fun _=>rfl)) ?_
         clear h1 hG h hm
         rintro ⟨⟨j,h⟩,hj,hall,h1,h4⟩
         dsimp only at hj hall h1 h4 ⊢
         by_cases hj2 : j = q.length
         · subst hj2
           rw [List.take_length] at hall
           have hgk : goodK l k = true:=hgood hall
           have hgn : ∀ j,j < k + 1 → goodK l j = true:=fun j hj=>by
             by_cases e : j = k
             · subst e; exact hgk
             · exact hg j (by omega)
           repeat' (first | intro (hb : _ = _) | refine ZV ?_ | refine ZB tm rvk_specs21_ok ?_ | refine ZH ?_ ?_ | refine ZJ (by conv=>lhs; simp [hw]) ?_ | refine ZA ?_ ?_)
           exact ⟨⟨(k + 1,_),hlt,hgn,by simp [lk_st,h1]⟩,by dsimp only; omega,AS.le_of rfl ⟨rfl,rfl,rfl,rfl,trivial⟩ (fun _=>rfl)⟩
         · have hjl : j < q.length:=by omega
           obtain ⟨m,hrm⟩:=get_lt hjl
           have hmm : (q.map Msg.v)[j]? = some m.v:=by rw [List.getElem?_map,hrm]; rfl
           have p1 : (j : Int) < q.length:=by omega
           have p2 : ¬ q.length ≤ j:=by omega
           have pw : IntKind.i64.wrap ((j : Int) + 1) = ((j + 1 : Nat) : Int):=w64 (by omega) (by omega)
           have hmem:=List.mem_of_getElem? hrm
           by_cases h5 : m.fr = a ∧ m.to = b
           · have hall2 : ∀ m ∈ q.take (j + 1),m.fr = a ∧ m.to = b:=fun y hy=>by
               rw [List.take_add_one,hrm] at hy
               simp only [Option.toList_some,List.mem_append,List.mem_singleton] at hy
               rcases hy with hy | rfl
               · exact hall y hy
               · exact h5
             obtain ⟨h5a,h5b⟩:=h5
             have e1 : (m.fr != a) = false:=by simp [h5a]
             have e2 : (m.to != b) = false:=by simp [h5b]
             obtain ⟨m1,m2,m3,m4,m5,o,m6,m7,m8,m9⟩:=m
             simp only [Msg.v] at hmm
             dsimp only at e1 e2
             clear h5a h5b
             repeat' (first | intro (hb : _ = _) | refine ZV ?_ | refine ZB tm rvk_specs21_ok ?_ | refine ZH ?_ ?_ | refine ZJ (by conv=>lhs; simp [p1,p2,hmm,h4,e1,e2,pw]) ?_ | refine ZA ?_ ?_)
             exact ⟨⟨(j + 1,_),hjl,hall2,by simp [lk_st,h1],by simp [lk_st,h4]⟩,by dsimp only; omega,AS.le_of rfl ⟨rfl,rfl,rfl,rfl,rfl,rfl,rfl,rfl,trivial⟩ (fun _=>rfl)⟩
           · rw [validK_no hlt (hbad m hmem h5)]
             have e3 : (m.fr != a || m.to != b) = true:=by
               by_cases h6 : m.fr = a
               · have : m.to ≠ b:=fun h7=>h5 ⟨h6,h7⟩
                 simp [this]
               · simp [h6]
             obtain ⟨m1,m2,m3,m4,m5,o,m6,m7,m8,m9⟩:=m
             simp only [Msg.v] at hmm
             dsimp only at e3
             by_cases h6 : (m1 != a) = true
             · clear e3 h5
               repeat' (first | intro (hb : _ = _) | refine ZV ?_ | refine ZB tm rvk_specs21_ok ?_ | refine ZH ?_ ?_ | refine ZJ (by conv=>lhs; simp [p1,p2,hmm,h4,h6]) ?_ | refine ZA ?_ ?_)
               all_goals (first | refine Yd ?_ | refine Ye ?_)
               all_goals (first | rfl | (simp; done) | (simp_all; done) | (simp_all; omega))
             · have e1 : (m1 != a) = false:=by simpa using h6
               have e2 : (m2 != b) = true:=by rw [e1] at e3; simpa using e3
               clear e3 h5 h6
               repeat' (first | intro (hb : _ = _) | refine ZV ?_ | refine ZB tm rvk_specs21_ok ?_ | refine ZH ?_ ?_ | refine ZJ (by conv=>lhs; simp [p1,p2,hmm,h4,e1,e2]) ?_ | refine ZA ?_ ?_)
               all_goals (first | refine Yd ?_ | refine Ye ?_)
               all_goals (first | rfl | (simp; done) | (simp_all; done) | (simp_all; omega))
     · have hms : (l.map lkC)[j0]? = some (lkC s):=by rw [List.getElem?_map,hs]; rfl
       have q3 : ¬ l.length ≤ j0:=by omega
       have q4 : (0 : Int) < (k : Int):=by omega
       have q4' : 0 < k:=by omega
       have hd : IntKind.i64.wrap ((k : Int) - 1) = (j0 : Int):=by rw [w64 (by omega) (by omega)]; omega
       have q1' : (j0 : Int) < l.length:=by omega
       have cb:=befS_eq s (he s (List.mem_of_getElem? hs)) a b
       rw [hbb] at cb
       have hgood : (∀ m ∈ q,m.fr = a ∧ m.to = b) → goodK l k = true:=fun h=>by
         have:=hall0 h
         subst hkj
         unfold goodK
         simp only [hr,hb',this,hs,hbb,Bool.true_and]
       obtain ⟨s1,s2,s3,s4⟩:=s
       simp only [lkC] at hms cb
       obtain ⟨G,hG⟩ : ∃ G,((lk h 80).getD { }).gen + 1 = G:=⟨_,rfl⟩
       clear hall0
       rcases hc4 with ⟨rfl, -⟩ | ⟨rfl,e0⟩
       · repeat' (first | intro (hb : _ = _) | refine ZV ?_ | refine ZB (id:=2) tm rvk_specs21_ok ?_ | refine ZB (id:=3) tm rvk_specs21_ok ?_ | refine ZB (id:=4) tm rvk_specs21_ok ?_ | refine ZB (id:=5) tm rvk_specs21_ok ?_ | refine ZB (id:=6) tm rvk_specs21_ok ?_ | refine ZB (id:=7) tm rvk_specs21_ok ?_ | refine ZB (id:=8) tm rvk_specs21_ok ?_ | refine ZH ?_ ?_ | refine ZJ (by conv=>lhs; simp [q1,q1',q2,q3,q4,q4',hm,hms,n1,n2,cq,c3,hd,cb,h1,hG]) ?_ | refine ZA ?_ ?_)
         refine W.loop rfl (ι:={ x : Nat × NL ABlk // x.1 ≤ q.length ∧ (∀ m ∈ q.take x.1,m.fr = a ∧ m.to = b) ∧ lk x.2 32 = some { gen:=1,kind:=2,elem:=34,size:=1,inl:=false,rows:=[[.list 4 (l.map lkC)]] } ∧ lk x.2 80 = some { gen:=G,kind:=2,elem:=121,size:=4,inl:=false,rows:=[[.int .i64 a, .int .i64 b, .bool true, .list 45 (q.map Msg.v)]] } })
           (fun x=>⟨79,[(1, .ptr 32 1 0 0),(4, .ptr 80 G 0 0),(8, .list 4 (l.map lkC)),(9, .int .i64 l.length),(10, .int .i64 (k : Nat)),(59, .list 45 (q.map Msg.v)),(60, .int .i64 q.length),(61, .int .i64 (x.1.1 : Nat))],x.1.2⟩) (fun x=>q.length - x.1.1)
           ⟨(0,_),by simp,by simp,by simp [lk_st,h1],by simp [lk_st]⟩ (AS.le_of rfl ⟨rfl,rfl,rfl,rfl,rfl,rfl,rfl,rfl,trivial⟩ (fun _=>rfl)) ?_
         clear h1 hG h hm
         rintro ⟨⟨j,h⟩,hj,hall,h1,h4⟩
         dsimp only at hj hall h1 h4 ⊢
         by_cases hj2 : j = q.length
         · subst hj2
           rw [List.take_length] at hall
           have hgk : goodK l k = true:=hgood hall
           have hgn : ∀ j,j < k + 1 → goodK l j = true:=fun j hj=>by
             by_cases e : j = k
             · subst e; exact hgk
             · exact hg j (by omega)
           repeat' (first | intro (hb : _ = _) | refine ZV ?_ | refine ZB tm rvk_specs21_ok ?_ | refine ZH ?_ ?_ | refine ZJ (by conv=>lhs; simp [hw]) ?_ | refine ZA ?_ ?_)
           exact ⟨⟨(k + 1,_),hlt,hgn,by simp [lk_st,h1]⟩,by dsimp only; omega,AS.le_of rfl ⟨rfl,rfl,rfl,rfl,trivial⟩ (fun _=>rfl)⟩
         · have hjl : j < q.length:=by omega
           obtain ⟨m,hrm⟩:=get_lt hjl
           have hmm : (q.map Msg.v)[j]? = some m.v:=by rw [List.getElem?_map,hrm]; rfl
           have p1 : (j : Int) < q.length:=by omega
           have p2 : ¬ q.length ≤ j:=by omega
           have pw : IntKind.i64.wrap ((j : Int) + 1) = ((j + 1 : Nat) : Int):=w64 (by omega) (by omega)
           have hmem:=List.mem_of_getElem? hrm
           by_cases h5 : m.fr = a ∧ m.to = b
           · have hall2 : ∀ m ∈ q.take (j + 1),m.fr = a ∧ m.to = b:=fun y hy=>by
               rw [List.take_add_one,hrm] at hy
               simp only [Option.toList_some,List.mem_append,List.mem_singleton] at hy
               rcases hy with hy | rfl
               · exact hall y hy
               · exact h5
             obtain ⟨h5a,h5b⟩:=h5
             have e1 : (m.fr != a) = false:=by simp [h5a]
             have e2 : (m.to != b) = false:=by simp [h5b]
             obtain ⟨m1,m2,m3,m4,m5,o,m6,m7,m8,m9⟩:=m
             simp only [Msg.v] at hmm
             dsimp only at e1 e2
             clear h5a h5b
             repeat' (first | intro (hb : _ = _) | refine ZV ?_ | refine ZB tm rvk_specs21_ok ?_ | refine ZH ?_ ?_ | refine ZJ (by conv=>lhs; simp [p1,p2,hmm,h4,e1,e2,pw]) ?_ | refine ZA ?_ ?_)
             exact ⟨⟨(j + 1,_),hjl,hall2,by simp [lk_st,h1],by simp [lk_st,h4]⟩,by dsimp only; omega,AS.le_of rfl ⟨rfl,rfl,rfl,rfl,rfl,rfl,rfl,rfl,trivial⟩ (fun _=>rfl)⟩
           · rw [validK_no hlt (hbad m hmem h5)]
             have e3 : (m.fr != a || m.to != b) = true:=by
               by_cases h6 : m.fr = a
               · have : m.to ≠ b:=fun h7=>h5 ⟨h6,h7⟩
                 simp [this]
               · simp [h6]
             obtain ⟨m1,m2,m3,m4,m5,o,m6,m7,m8,m9⟩:=m
             simp only [Msg.v] at hmm
             dsimp only at e3
             by_cases h6 : (m1 != a) = true
             · clear e3 h5
               repeat' (first | intro (hb : _ = _) | refine ZV ?_ | refine ZB tm rvk_specs21_ok ?_ | refine ZH ?_ ?_ | refine ZJ (by conv=>lhs; simp [p1,p2,hmm,h4,h6]) ?_ | refine ZA ?_ ?_)
               all_goals (first | refine Yd ?_ | refine Ye ?_)
               all_goals (first | rfl | (simp; done) | (simp_all; done) | (simp_all; omega))
             · have e1 : (m1 != a) = false:=by simpa using h6
               have e2 : (m2 != b) = true:=by rw [e1] at e3; simpa using e3
               clear e3 h5 h6
               repeat' (first | intro (hb : _ = _) | refine ZV ?_ | refine ZB tm rvk_specs21_ok ?_ | refine ZH ?_ ?_ | refine ZJ (by conv=>lhs; simp [p1,p2,hmm,h4,e1,e2]) ?_ | refine ZA ?_ ?_)
               all_goals (first | refine Yd ?_ | refine Ye ?_)
               all_goals (first | rfl | (simp; done) | (simp_all; done) | (simp_all; omega))
       · repeat' (first | intro (hb : _ = _) | refine ZV ?_ | refine ZB (id:=2) tm rvk_specs21_ok ?_ | refine ZB (id:=3) tm rvk_specs21_ok ?_ | refine ZB (id:=4) tm rvk_specs21_ok ?_ | refine ZB (id:=5) tm rvk_specs21_ok ?_ | refine ZB (id:=6) tm rvk_specs21_ok ?_ | refine ZB (id:=7) tm rvk_specs21_ok ?_ | refine ZB (id:=8) tm rvk_specs21_ok ?_ | refine ZH ?_ ?_ | refine ZJ (by conv=>lhs; simp [q1,q1',q2,q3,q4,q4',hm,hms,n1,n2,cq,c3,hd,cb,h1,e0,hG]) ?_ | refine ZA ?_ ?_)
         refine W.loop rfl (ι:={ x : Nat × NL ABlk // x.1 ≤ q.length ∧ (∀ m ∈ q.take x.1,m.fr = a ∧ m.to = b) ∧ lk x.2 32 = some { gen:=1,kind:=2,elem:=34,size:=1,inl:=false,rows:=[[.list 4 (l.map lkC)]] } ∧ lk x.2 80 = some { gen:=G,kind:=2,elem:=121,size:=4,inl:=false,rows:=[[.int .i64 a, .int .i64 b, .bool false, .list 45 (q.map Msg.v)]] } })
           (fun x=>⟨79,[(1, .ptr 32 1 0 0),(4, .ptr 80 G 0 0),(8, .list 4 (l.map lkC)),(9, .int .i64 l.length),(10, .int .i64 (k : Nat)),(59, .list 45 (q.map Msg.v)),(60, .int .i64 q.length),(61, .int .i64 (x.1.1 : Nat))],x.1.2⟩) (fun x=>q.length - x.1.1)
           ⟨(0,_),by simp,by simp,by simp [lk_st,h1],by simp [lk_st]⟩ (AS.le_of rfl ⟨rfl,rfl,rfl,rfl,rfl,rfl,rfl,rfl,trivial⟩ (fun _=>rfl)) ?_
         clear h1 hG h hm
         rintro ⟨⟨j,h⟩,hj,hall,h1,h4⟩
         dsimp only at hj hall h1 h4 ⊢
         by_cases hj2 : j = q.length
         · subst hj2
           rw [List.take_length] at hall
           have hgk : goodK l k = true:=hgood hall
           have hgn : ∀ j,j < k + 1 → goodK l j = true:=fun j hj=>by
             by_cases e : j = k
             · subst e; exact hgk
             · exact hg j (by omega)
           repeat' (first | intro (hb : _ = _) | refine ZV ?_ | refine ZB tm rvk_specs21_ok ?_ | refine ZH ?_ ?_ | refine ZJ (by conv=>lhs; simp [hw]) ?_ | refine ZA ?_ ?_)
           exact ⟨⟨(k + 1,_),hlt,hgn,by simp [lk_st,h1]⟩,by dsimp only; omega,AS.le_of rfl ⟨rfl,rfl,rfl,rfl,trivial⟩ (fun _=>rfl)⟩
         · have hjl : j < q.length:=by omega
           obtain ⟨m,hrm⟩:=get_lt hjl
           have hmm : (q.map Msg.v)[j]? = some m.v:=by rw [List.getElem?_map,hrm]; rfl
           have p1 : (j : Int) < q.length:=by omega
           have p2 : ¬ q.length ≤ j:=by omega
           have pw : IntKind.i64.wrap ((j : Int) + 1) = ((j + 1 : Nat) : Int):=w64 (by omega) (by omega)
           have hmem:=List.mem_of_getElem? hrm
           by_cases h5 : m.fr = a ∧ m.to = b
           · have hall2 : ∀ m ∈ q.take (j + 1),m.fr = a ∧ m.to = b:=fun y hy=>by
               rw [List.take_add_one,hrm] at hy
               simp only [Option.toList_some,List.mem_append,List.mem_singleton] at hy
               rcases hy with hy | rfl
               · exact hall y hy
               · exact h5
             obtain ⟨h5a,h5b⟩:=h5
             have e1 : (m.fr != a) = false:=by simp [h5a]
             have e2 : (m.to != b) = false:=by simp [h5b]
             obtain ⟨m1,m2,m3,m4,m5,o,m6,m7,m8,m9⟩:=m
             simp only [Msg.v] at hmm
             dsimp only at e1 e2
             clear h5a h5b
             repeat' (first | intro (hb : _ = _) | refine ZV ?_ | refine ZB tm rvk_specs21_ok ?_ | refine ZH ?_ ?_ | refine ZJ (by conv=>lhs; simp [p1,p2,hmm,h4,e1,e2,pw]) ?_ | refine ZA ?_ ?_)
             exact ⟨⟨(j + 1,_),hjl,hall2,by simp [lk_st,h1],by simp [lk_st,h4]⟩,by dsimp only; omega,AS.le_of rfl ⟨rfl,rfl,rfl,rfl,rfl,rfl,rfl,rfl,trivial⟩ (fun _=>rfl)⟩
           · rw [validK_no hlt (hbad m hmem h5)]
             have e3 : (m.fr != a || m.to != b) = true:=by
               by_cases h6 : m.fr = a
               · have : m.to ≠ b:=fun h7=>h5 ⟨h6,h7⟩
                 simp [this]
               · simp [h6]
             obtain ⟨m1,m2,m3,m4,m5,o,m6,m7,m8,m9⟩:=m
             simp only [Msg.v] at hmm
             dsimp only at e3
             by_cases h6 : (m1 != a) = true
             · clear e3 h5
               repeat' (first | intro (hb : _ = _) | refine ZV ?_ | refine ZB tm rvk_specs21_ok ?_ | refine ZH ?_ ?_ | refine ZJ (by conv=>lhs; simp [p1,p2,hmm,h4,h6]) ?_ | refine ZA ?_ ?_)
               all_goals (first | refine Yd ?_ | refine Ye ?_)
               all_goals (first | rfl | (simp; done) | (simp_all; done) | (simp_all; omega))
             · have e1 : (m1 != a) = false:=by simpa using h6
               have e2 : (m2 != b) = true:=by rw [e1] at e3; simpa using e3
               clear e3 h5 h6
               repeat' (first | intro (hb : _ = _) | refine ZV ?_ | refine ZB tm rvk_specs21_ok ?_ | refine ZH ?_ ?_ | refine ZJ (by conv=>lhs; simp [p1,p2,hmm,h4,e1,e2]) ?_ | refine ZA ?_ ?_)
               all_goals (first | refine Yd ?_ | refine Ye ?_)
               all_goals (first | rfl | (simp; done) | (simp_all; done) | (simp_all; omega))
     · have hms : (l.map lkC)[j0]? = some (lkC s):=by rw [List.getElem?_map,hs]; rfl
       have q3 : ¬ l.length ≤ j0:=by omega
       have q4 : (0 : Int) < (k : Int):=by omega
       have q4' : 0 < k:=by omega
       have hd : IntKind.i64.wrap ((k : Int) - 1) = (j0 : Int):=by rw [w64 (by omega) (by omega)]; omega
       have q1' : (j0 : Int) < l.length:=by omega
       have cb:=befS_eq s (he s (List.mem_of_getElem? hs)) a b
       rw [hbb] at cb
       rw [validK_no hlt (by subst hkj; unfold goodK; simp only [hr,hs,hbb,Bool.and_false])]
       obtain ⟨s1,s2,s3,s4⟩:=s
       simp only [lkC] at hms cb
       rcases hc4 with ⟨rfl, -⟩ | ⟨rfl,e0⟩
       · repeat' (first | intro (hb : _ = _) | refine ZV ?_ | refine ZB tm rvk_specs21_ok ?_ | refine ZH ?_ ?_ | refine ZJ (by conv=>lhs; simp [q1,q1',q2,q3,q4,q4',hm,hms,n1,n2,cq,c3,hd,cb,h1]) ?_ | refine ZA ?_ ?_)
         all_goals (first | refine Yd ?_ | refine Ye ?_)
         all_goals (first | rfl | (simp; done) | (simp_all; done) | (simp_all; omega))
       · repeat' (first | intro (hb : _ = _) | refine ZV ?_ | refine ZB tm rvk_specs21_ok ?_ | refine ZH ?_ ?_ | refine ZJ (by conv=>lhs; simp [q1,q1',q2,q3,q4,q4',hm,hms,n1,n2,cq,c3,hd,cb,h1,e0]) ?_ | refine ZA ?_ ?_)
         all_goals (first | refine Yd ?_ | refine Ye ?_)
         all_goals (first | rfl | (simp; done) | (simp_all; done) | (simp_all; omega))
end
section
attribute [local simp] instA slice3A slice3C
attribute [-simp] mkv
attribute [local simp] mkv_hd hdA_cons hdA_ob hdA_ob'
def lkIs (f t : Int) (l : Lk) : Bool := l.fr == f && l.to == t
def fndK (f t : Int) (ls : List Lk) : Lk := (ls.find? (lkIs f t)).getD ⟨f,t,false,[]⟩
theorem lkLeafs : leafs Try.prog 121 = [3,3,4,61] := lf121
theorem lkC_nrm (l : Lk) : nrmL Try.prog (leafs Try.prog 121) (lkC l) = lkC l := by
 rw [lkLeafs]
 simp only [lkC,nrmL,nrmV,uM,nrmRows_map msg_nrm]
theorem lkC_nrm0 (f t : Int) (c : Bool) : nrmL Try.prog (leafs Try.prog 121) [.int .i64 f, .int .i64 t, .bool c, .nils] = lkC ⟨f,t,c,[]⟩ := by
 rw [lkLeafs]
 simp only [lkC,nrmL,nrmV,uM,cM,List.map_nil]
theorem lkC_nrmR (l : Lk) : nrmR Try.prog [121] (.agg (lkC l)) = .agg (lkC l) := by
 simp only [nrmR,nrmV]
 rw [lkC_nrm]
noncomputable def fnkS : SpecFn := mkS (fun d : Nts × Int × Int => [d.1.v, .int .i64 d.2.1, .int .i64 d.2.2]) fun d => (.agg (lkC (fndK d.2.1 d.2.2 d.1.ls)),[])
theorem fnkS_eq (d : Nts) (f t : Int) : fnkS [d.v, .int .i64 f, .int .i64 t] [] = some (.agg (lkC (fndK f t d.ls)),[]) :=
 mkS_eq (enc:=fun d : Nts × Int × Int=>[d.1.v,AV.int .i64 d.2.1, .int .i64 d.2.2]) (res:=fun d=>(.agg (lkC (fndK d.2.1 d.2.2 d.1.ls)),[])) (fun x y h=>by
   obtain ⟨a,b,c⟩:=x
   obtain ⟨a',b',c'⟩:=y
   simp only [List.cons.injEq,AV.int.injEq,true_and,and_true] at h
   obtain ⟨h1,rfl,rfl⟩:=h
   cases Nts.v_inj h1
   rfl) (d,f,t)
theorem findK_take {p : Lk → Bool} {l : List Lk} : ∀ {k : Nat} {e : Lk},l[k]? = some e → (∀ x ∈ l.take k,p x = false) → p e = true → l.find? p = some e := by
 induction l with
 | nil=>intro k e h; simp at h
 | cons x r ih =>
   intro k e h h1 h2
   cases k with
   | zero =>
     simp only [List.getElem?_cons_zero,Option.some.injEq] at h
     subst h
     simp [List.find?_cons,h2]
   | succ k =>
     simp only [List.getElem?_cons_succ] at h
     have:=h1 x (by simp)
     rw [List.find?_cons,this]
     exact ih h (fun y hy=>h1 y (by simp [hy])) h2
theorem fnk_ok : FnC Try.prog 59 fnkS := by
 refine FnC.walkN 59 (fn:=Try.f59) [121] Try.func59 rfl (by kernel_rfl) (fun d=>?_) (fun d=>⟨_,lkC_nrmR _⟩)
 obtain ⟨⟨l,hl,he⟩,f,t⟩:=d
 change W _ (RetNf _ _ _ (.agg (lkC (fndK f t l))) []) _ _ ⟨31,[(0, .agg [.list 4 (l.map lkC)]),(1, .int .i64 f),(2, .int .i64 t)],[]⟩
 have cap : l.length ≤ 9223372036854775807:=by omega
 repeat' (first | intro (hb : _ = _) | refine ZV ?_ | refine ZB tm no_specs ?_ | refine ZH ?_ ?_ | refine ZJ (by conv=>lhs; simp [cap]) ?_ | refine ZA ?_ ?_)
 refine W.loop rfl (ι:={ q : Nat × NL ABlk // q.1 ≤ l.length ∧ (∀ x ∈ l.take q.1,lkIs f t x = false) ∧ lk q.2 112 = some { gen:=1,kind:=2,elem:=121,size:=4,inl:=false,rows:=[[.int .i64 0, .int .i64 0, .bool false, .nils]] } })
   (fun q=>⟨31,[(1, .int .i64 f),(2, .int .i64 t),(6, .ptr 112 1 0 0),(10, .list 4 (l.map lkC)),(11, .int .i64 l.length),(12, .int .i64 (q.1.1 : Nat))],q.1.2⟩) (fun q=>l.length - q.1.1)
   ⟨(0,_),by simp,by simp,by first | rfl | simp [lk_st]⟩ (AS.le_of rfl ⟨rfl,rfl,rfl,rfl,rfl,rfl,trivial⟩ (fun _=>rfl)) ?_
 rintro ⟨⟨k,h⟩,hk,hg,h1⟩
 dsimp only at hk hg h1 ⊢
 by_cases hk2 : k = l.length
 · subst hk2
   rw [List.take_length] at hg
   have hf : fndK f t l = ⟨f,t,false,[]⟩:=by
     unfold fndK
     rw [List.find?_eq_none.2 (fun x hx=>by simp [hg x hx])]
     rfl
   rw [hf]
   repeat' (first | intro (hb : _ = _) | refine ZV ?_ | refine ZB tm no_specs ?_ | refine ZH ?_ ?_ | refine ZJ (by conv=>lhs; simp [h1]) ?_ | refine ZA ?_ ?_)
   refine Ye ?_
   simp only [nrmR,nrmV]
   rw [lkC_nrm0]
 · have hlt : k < l.length:=by omega
   obtain ⟨e,hr⟩:=get_lt hlt
   have hm : (l.map lkC)[k]? = some (lkC e):=by rw [List.getElem?_map,hr]; rfl
   have q1 : (k : Int) < l.length:=by omega
   have q2 : ¬ l.length ≤ k:=by omega
   have hw : IntKind.i64.wrap ((k : Int) + 1) = ((k + 1 : Nat) : Int):=w64 (by omega) (by omega)
   have fin : lkIs f t e = true → fndK f t l = e:=fun hi=>by
     unfold fndK
     rw [findK_take hr hg hi]
     rfl
   have nxt : lkIs f t e = false → ∀ x ∈ l.take (k + 1),lkIs f t x = false:=fun hi x hx=>by
     rw [List.take_add_one,hr] at hx
     simp only [Option.toList_some,List.mem_append,List.mem_singleton] at hx
     rcases hx with hx | rfl
     · exact hg x hx
     · exact hi
   obtain ⟨a,b,c,q⟩:=e
   unfold lkIs at fin nxt
   dsimp only at fin nxt
   simp only [lkC] at hm
   cases i1 : (a == f) with
   | false =>
     have:=nxt (by rw [i1]; rfl)
     repeat' (first | intro (hb : _ = _) | refine ZV ?_ | refine ZB tm no_specs ?_ | refine ZH ?_ ?_ | refine ZJ (by conv=>lhs; simp [q1,q2,hm,i1,hw]) ?_ | refine ZA ?_ ?_)
     exact ⟨⟨(k + 1,_),hlt,this,by simp [lk_st,h1]⟩,by dsimp only; omega,AS.le_of rfl ⟨rfl,rfl,rfl,rfl,rfl,rfl,trivial⟩ (fun _=>rfl)⟩
   | true =>
     cases i2 : (b == t) with
     | false =>
       have:=nxt (by rw [i1,i2]; rfl)
       repeat' (first | intro (hb : _ = _) | refine ZV ?_ | refine ZB tm no_specs ?_ | refine ZH ?_ ?_ | refine ZJ (by conv=>lhs; simp [q1,q2,hm,i1,i2,hw]) ?_ | refine ZA ?_ ?_)
       exact ⟨⟨(k + 1,_),hlt,this,by simp [lk_st,h1]⟩,by dsimp only; omega,AS.le_of rfl ⟨rfl,rfl,rfl,rfl,rfl,rfl,trivial⟩ (fun _=>rfl)⟩
     | true =>
       rw [fin (by rw [i1,i2]; rfl)]
       repeat' (first | intro (hb : _ = _) | refine ZV ?_ | refine ZB tm no_specs ?_ | refine ZH ?_ ?_ | refine ZJ (by conv=>lhs; simp [q1,q2,hm,i1,i2,h1]) ?_ | refine ZA ?_ ?_)
       refine Ye ?_
       exact lkC_nrmR ⟨a,b,c,q⟩
def othK (x : Lk) (l : List Lk) : List Lk := l.filter (fun e => e.fr != x.fr || e.to != x.to)
def putP (x : Lk) : List Lk → List Lk
 | []=>[x]
 | e :: r=>if befB e x.fr x.to then e :: putP x r else x :: othK x (e :: r)
def restK (x : Lk) (done : Bool) (l : List Lk) : List Lk := if done then othK x l else putP x l
def putK (x : Lk) (l : List Lk) : List Lk := restK x (!x.cut && x.q.isEmpty) l
theorem bef_ne {e x : Lk} (h : befB e x.fr x.to = true) : (e.fr != x.fr || e.to != x.to) = true := by
 unfold befB at h
 simp only [Bool.or_eq_true,decide_eq_true_eq,Bool.and_eq_true,beq_iff_eq] at h
 simp only [Bool.or_eq_true,bne_iff_ne,ne_eq]
 omega
structure Pl where
 d : Nts
 x : Lk
 h : okK x
noncomputable def ptlS : SpecFn := mkS (fun p : Pl => [p.d.v, .agg (lkC p.x)]) fun p => (.agg [.list 4 ((putK p.x p.d.ls).map lkC)],[])
theorem ptlS_eq (p : Pl) : ptlS [p.d.v, .agg (lkC p.x)] [] = some (.agg [.list 4 ((putK p.x p.d.ls).map lkC)],[]) :=
 mkS_eq (enc:=fun p : Pl=>[p.d.v,AV.agg (lkC p.x)]) (res:=fun p=>(.agg [.list 4 ((putK p.x p.d.ls).map lkC)],[])) (fun x y h=>by
   obtain ⟨a,b,_⟩:=x
   obtain ⟨a',b',_⟩:=y
   simp only [List.cons.injEq,AV.agg.injEq,and_true] at h
   cases Nts.v_inj h.1
   cases lkC_inj h.2
   rfl) p
theorem uK : Try.prog.underlying 32 = some (.slice 121) := by kernel_rfl
theorem cK : Try.prog.cellsOf 121 = 4 := by kernel_rfl
theorem nwLeafs : leafs Try.prog 34 = [32] := lf34
theorem nts_nrmR (l : List Lk) : nrmR Try.prog [34] (.agg [.list 4 (l.map lkC)]) = .agg [.list 4 (l.map lkC)] := by
 simp only [nrmR,nrmV,nwLeafs,nrmL,uK,nrmRows_map lkC_nrm]
noncomputable def ptl_specs : NL Spec := [(77,⟨1,befS⟩)]
theorem ptl_specs_ok : ∀ p ∈ ptl_specs,FnC Try.prog p.1 p.2.fn := by
 simp only [ptl_specs,List.mem_cons,List.not_mem_nil,or_false]
 rintro p rfl
 exact bef_ok
attribute [local simp] ptl_specs
structure PlI (x : Lk) (l : List Lk) where
 k : Nat
 done : Bool
 T : List Lk
 g : Nat
 H : NL ABlk
 hk : k ≤ l.length
 hT : T.length ≤ k + done.toNat
 res : T ++ restK x done (l.drop k) = putK x l
 g3 : lk H 64 = some { gen:=1,kind:=2,elem:=121,size:=4,inl:=false,rows:=[lkC x] }
 g4 : lk H 80 = some { gen:=1,kind:=2,elem:=34,size:=1,inl:=false,rows:=[[.nils]] }
 g5 : lk H 96 = some { gen:=1,kind:=2,elem:=34,size:=1,inl:=false,rows:=[[.sl 20000 g 0 T.length]] }
 gM : lk H 20000 = some { gen:=g,kind:=2,elem:=121,size:=4,inl:=true,rows:=T.map lkC }
theorem ptl_ok : FnC Try.prog 60 ptlS := by
 refine FnC.walkN 60 (fn:=Try.f60) [34] Try.func60 rfl (by kernel_rfl) (fun d=>?_) (fun d=>⟨_,nts_nrmR _⟩)
 obtain ⟨⟨l,hl,he⟩,x,hx⟩:=d
 change W _ (RetNf _ _ _ (.agg [.list 4 ((putK x l).map lkC)]) []) _ _ ⟨70,[(0, .agg [.list 4 (l.map lkC)]),(1, .agg (lkC x))],[]⟩
 have cap : l.length ≤ 9223372036854775807:=by omega
 have capx : x.q.length ≤ 9223372036854775807:=by unfold okK at hx; omega
 have hd0 : (x.cut = true ∧ (!x.cut && x.q.isEmpty) = false) ∨ (x.cut = false ∧ ∃ b,((x.q.length : Int) == 0) = b ∧ (!x.cut && x.q.isEmpty) = b):=by
   cases h : x.cut with
   | true=>exact .inl ⟨rfl,rfl⟩
   | false =>
     right
     refine ⟨rfl,x.q.isEmpty, ?_,rfl⟩
     cases x.q with
     | nil=>rfl
     | cons a r=>simp; omega
 simp only [lkC]
 repeat' (first | intro (hb : _ = _) | refine ZV ?_ | refine ZB (id:=0) tm ptl_specs_ok ?_ | refine ZB (id:=1) tm ptl_specs_ok ?_ | refine ZH ?_ ?_ | refine ZJ (by conv=>lhs; simp [cap]) ?_ | refine ZA ?_ ?_)
 refine W.phR 96 0 0 20000 121 4 true rfl rfl rfl rfl rfl rfl (by decide) ?_
 rcases hd0 with ⟨hc,hD⟩ | ⟨hc,b,hb0,hD⟩
 repeat' (first | intro (hb : _ = _) | refine ZV ?_ | refine ZB (id:=2) tm ptl_specs_ok ?_ | refine ZB (id:=3) tm ptl_specs_ok ?_ | refine ZH ?_ ?_ | refine ZJ (by conv=>lhs; simp [cap,capx,hc]) ?_ | refine ZA ?_ ?_)
 refine W.loop rfl (ι:=PlI x l)
   (fun q=>⟨70,[(3, .ptr 64 1 0 0),(4, .ptr 80 1 0 0),(5, .ptr 96 1 0 0),(6, .bool q.done),(19, .list 4 (l.map lkC)),(20, .int .i64 l.length),(21, .int .i64 (q.k : Nat))],q.H⟩) (fun q=>l.length - q.k)
   ⟨0,false,[],0,_,by simp,by simp,by rw [putK,hD]; simp,by simp [lk_st,lk,lkC,hc],by simp [lk_st,lk],by simp [lk_st,lk],by simp [lk_st,lk]⟩ (AS.le_of rfl ⟨rfl,rfl,rfl,rfl,rfl,rfl,rfl,trivial⟩ (fun _=>rfl)) ?_
 rotate_left 1
 repeat' (first | intro (hb : _ = _) | refine ZV ?_ | refine ZB (id:=2) tm ptl_specs_ok ?_ | refine ZB (id:=3) tm ptl_specs_ok ?_ | refine ZH ?_ ?_ | refine ZJ (by conv=>lhs; simp [cap,capx,hc]) ?_ | refine ZA ?_ ?_)
 refine W.loop rfl (ι:=PlI x l)
   (fun q=>⟨70,[(3, .ptr 64 1 0 0),(4, .ptr 80 1 0 0),(5, .ptr 96 1 0 0),(6, .bool q.done),(19, .list 4 (l.map lkC)),(20, .int .i64 l.length),(21, .int .i64 (q.k : Nat))],q.H⟩) (fun q=>l.length - q.k)
   ⟨0,((x.q.length : Int) == 0),[],0,_,by simp,by simp,by rw [putK,hD,hb0]; simp,by simp [lk_st,lk,lkC,hc],by simp [lk_st,lk],by simp [lk_st,lk],by simp [lk_st,lk]⟩ (AS.le_of rfl ⟨rfl,rfl,rfl,rfl,rfl,rfl,rfl,trivial⟩ (fun _=>rfl)) ?_
 all_goals (
   clear hc hD
   rintro ⟨k,dn,T,g,H,hk,hT,res,g3,g4,g5,gM⟩
   dsimp only at hk hT res g3 g4 g5 gM ⊢
   simp only [lkC] at g3
   have hdn : dn.toNat ≤ 1:=Bool.toNat_le dn
   have y1 : T.length ≤ maxLen:=by simp only [maxLen]; omega
   have y2 : (T.length + 1) * 48 ≤ 140737488355328:=by omega
   have y4 : T.length + 1 ≤ maxLen:=by simp only [maxLen]; omega
   have fT : firstRows T.length (T.map lkC) = T.map lkC:=first_all (by simp)
   by_cases hk2 : k = l.length
   · subst hk2
     rw [List.drop_length] at res
     cases dn with
     | true =>
       have : putK x l = T:=by rw [← res]; simp [restK,othK]
       rw [this]
       have tT : List.take T.length (T.map lkC) = T.map lkC:=List.take_of_length_le (by simp)
       clear y1 y2 y4 fT hT res this
       repeat' (first | intro (hb : _ = _) | refine ZV ?_ | refine ZB tm ptl_specs_ok ?_ | refine ZH ?_ ?_ | refine ZJ (by conv=>lhs; simp [g3,g4,g5,gM]) ?_ | refine ZA ?_ ?_)
       refine RetNf.dataE rfl (by conv=>lhs; simp) (by conv=>lhs; simp [frqT,frqV,frqL,frq1,frz1,AP.run,gM,tT]) (by first | rfl | simp [inlT,inlV]) ?_
       exact nts_nrmR T
     | false =>
       obtain ⟨T2,hT2⟩ : ∃ T2,T ++ [x] = T2:=⟨_,rfl⟩
       have : putK x l = T2:=by rw [← res, ← hT2]; simp [restK,putP]
       rw [this]
       have hl2 : T2.length = T.length + 1:=by rw [← hT2]; simp
       have hrow : T.map lkC ++ [lkC x] = T2.map lkC:=by rw [← hT2]; simp
       simp only [lkC] at hrow
       have tT : List.take (T.length + 1) (T2.map lkC) = T2.map lkC:=List.take_of_length_le (by simp; omega)
       clear hdn res this
       repeat' (first | intro (hb : _ = _) | refine ZV ?_ | refine ZB tm ptl_specs_ok ?_ | refine ZH ?_ ?_ | refine ZJ (by conv=>lhs; simp [g3,g4,g5,gM,y1,y2,y4,fT,hrow,m1]) ?_ | refine ZA ?_ ?_)
       refine RetNf.dataE rfl (by conv=>lhs; simp) (by conv=>lhs; simp [frqT,frqV,frqL,frq1,frz1,AP.run,gM,tT,hl2]) (by first | rfl | simp [inlT,inlV]) ?_
       exact nts_nrmR T2
   · have hlt : k < l.length:=by omega
     obtain ⟨e,hr⟩:=get_lt hlt
     have hm : (l.map lkC)[k]? = some (lkC e):=by rw [List.getElem?_map,hr]; rfl
     have hd : l.drop k = e :: l.drop (k + 1):=by
       obtain ⟨h1,h2⟩:=List.getElem?_eq_some_iff.1 hr
       rw [List.drop_eq_getElem_cons h1,h2]
     rw [hd] at res
     have cb:=befS_eq e (he e (List.mem_of_getElem? hr)) x.fr x.to
     have q1 : (k : Int) < l.length:=by omega
     have q2 : ¬ l.length ≤ k:=by omega
     have hw : IntKind.i64.wrap ((k : Int) + 1) = ((k + 1 : Nat) : Int):=w64 (by omega) (by omega)
     simp only [lkC] at hm cb
     obtain ⟨tl,htl⟩ : ∃ tl,l.drop (k + 1) = tl:=⟨_,rfl⟩
     rw [htl] at res
     clear hd
     obtain ⟨B,hB⟩ : ∃ B,(e.fr != x.fr || e.to != x.to) = B:=⟨_,rfl⟩
     have oh : othK x (e :: tl) = (if B then [e] else []) ++ othK x tl:=by
       rw [← hB]
       unfold othK
       rw [List.filter_cons]
       split <;> simp
     repeat' (first | intro (hb : _ = _) | refine ZV ?_ | refine ZB (id:=4) tm ptl_specs_ok ?_ | refine ZB (id:=5) tm ptl_specs_ok ?_ | refine ZH ?_ ?_ | refine ZJ (by conv=>lhs; simp [q1,q2,hm]) ?_ | refine ZA ?_ ?_)
     refine W.cutT (fun σ' => ∃ (d2 : Bool) (T2 : List Lk) (g2 G : Nat) (H2 : NL ABlk),T2.length ≤ k + d2.toNat ∧ T2 ++ ((if B then [e] else []) ++ restK x d2 tl) = putK x l ∧ lk H2 64 = some { gen:=1,kind:=2,elem:=121,size:=4,inl:=false,rows:=[lkC x] } ∧ lk H2 80 = some { gen:=1,kind:=2,elem:=34,size:=1,inl:=false,rows:=[[.nils]] } ∧ lk H2 96 = some { gen:=1,kind:=2,elem:=34,size:=1,inl:=false,rows:=[[.sl 20000 g2 0 T2.length]] } ∧ lk H2 20000 = some { gen:=g2,kind:=2,elem:=121,size:=4,inl:=true,rows:=T2.map lkC } ∧ lk H2 144 = some { gen:=G,kind:=2,elem:=121,size:=4,inl:=false,rows:=[lkC e] } ∧ AS.le ⟨70,[(3, .ptr 64 1 0 0),(4, .ptr 80 1 0 0),(5, .ptr 96 1 0 0),(6, .bool d2),(8, .ptr 144 G 0 0),(19, .list 4 (l.map lkC)),(20, .int .i64 l.length),(21, .int .i64 (k : Nat))],H2⟩ σ') ?_ ?_
     · cases dn with
       | true =>
         have r1 : T ++ ((if B then [e] else []) ++ restK x true tl) = putK x l:=by
           rw [← res]
           simp only [restK,if_true]
           rw [oh]
         clear y1 y2 y4 fT
         repeat' (first | intro (hb : _ = _) | refine ZV ?_ | refine ZB tm ptl_specs_ok ?_ | refine ZH ?_ ?_ | refine ZJ (by conv=>lhs; simp [g3,g4,g5,gM]) ?_ | refine ZA ?_ ?_)
         exact ⟨true,T,g,_,_,hT,r1,by simp [lk_st,g3,lkC],by simp [lk_st,g4],by simp [lk_st,g5],by simp [lk_st,gM],by simp [lk_st,lkC],AS.le_of rfl ⟨rfl,rfl,rfl,rfl,rfl,rfl,rfl,rfl,trivial⟩ (fun _=>rfl)⟩
       | false =>
         simp only [restK,Bool.false_eq_true,if_false] at res
         rw [putP] at res
         cases n2 : befB e x.fr x.to with
         | false =>
           rw [n2] at cb
           rw [if_neg (by simp [n2])] at res
           have hrow : T.map lkC ++ [lkC x] = (T ++ [x]).map lkC:=by simp
           simp only [lkC] at hrow
           have hl2 : (T ++ [x]).length = T.length + 1:=by simp
           have r1 : (T ++ [x]) ++ ((if B then [e] else []) ++ restK x true tl) = putK x l:=by
             rw [← res,oh]
             simp only [restK,if_true,List.append_assoc,List.cons_append,List.nil_append]
           generalize T ++ [x] = T2 at *
           have r2 : T2.length ≤ k + (true : Bool).toNat:=by simp only [Bool.toNat_true,Bool.toNat_false] at hT ⊢; omega
           clear hdn res
           repeat' (first | intro (hb : _ = _) | refine ZV ?_ | refine ZB tm ptl_specs_ok ?_ | refine ZH ?_ ?_ | refine ZJ (by conv=>lhs; simp [cb,g3,g4,g5,gM,y1,y2,y4,fT,hrow,m1]) ?_ | refine ZA ?_ ?_)
           exact ⟨true,T2,g + 1,_,_,r2,r1,by simp [lk_st,g3,lkC],by simp [lk_st,g4],by simp [lk_st,hl2],by simp [lk_st],by simp [lk_st,lkC],AS.le_of rfl ⟨rfl,rfl,rfl,rfl,rfl,rfl,rfl,rfl,trivial⟩ (fun _=>rfl)⟩
         | true =>
           rw [n2] at cb
           rw [if_pos n2] at res
           have hBt : B = true:=by rw [← hB]; exact bef_ne n2
           have r1 : T ++ ((if B then [e] else []) ++ restK x false tl) = putK x l:=by
             rw [← res,hBt]
             simp [restK]
           clear hdn res
           repeat' (first | intro (hb : _ = _) | refine ZV ?_ | refine ZB tm ptl_specs_ok ?_ | refine ZH ?_ ?_ | refine ZJ (by conv=>lhs; simp [cb,g3,g4,g5,gM]) ?_ | refine ZA ?_ ?_)
           exact ⟨false,T,g,_,_,hT,r1,by simp [lk_st,g3,lkC],by simp [lk_st,g4],by simp [lk_st,g5],by simp [lk_st,gM],by simp [lk_st,lkC],AS.le_of rfl ⟨rfl,rfl,rfl,rfl,rfl,rfl,rfl,rfl,trivial⟩ (fun _=>rfl)⟩
     · clear y1 y2 y4 fT g3 g4 g5 gM hT res hdn oh cb
       rintro σ' ⟨d2,T,g,G,H,hT,res,g3,g4,g5,gM,g8,hle⟩
       refine W.weak hle ?_
       clear hle
       have hdn : d2.toNat ≤ 1:=Bool.toNat_le d2
       have y1 : T.length ≤ maxLen:=by simp only [maxLen]; omega
       have y2 : (T.length + 1) * 48 ≤ 140737488355328:=by omega
       have y4 : T.length + 1 ≤ maxLen:=by simp only [maxLen]; omega
       have fT : firstRows T.length (T.map lkC) = T.map lkC:=first_all (by simp)
       subst htl
       simp only [lkC] at g3 g8
       cases B with
       | false =>
         rw [if_neg (by simp)] at res
         have n1 : (e.fr != x.fr) = false:=by simp only [Bool.or_eq_false_iff] at hB; exact hB.1
         have n2 : (e.to != x.to) = false:=by simp only [Bool.or_eq_false_iff] at hB; exact hB.2
         clear y1 y2 y4 fT
         repeat' (first | intro (hb : _ = _) | refine ZV ?_ | refine ZB tm ptl_specs_ok ?_ | refine ZH ?_ ?_ | refine ZJ (by conv=>lhs; simp [n1,n2,hw,g3,g4,g5,gM,g8]) ?_ | refine ZA ?_ ?_)
         exact ⟨⟨k + 1,d2,T,g,_,hlt,by omega,res,by simp [lk_st,g3,lkC],by simp [lk_st,g4],by simp [lk_st,g5],by simp [lk_st,gM]⟩,by dsimp only; omega,AS.le_of rfl ⟨rfl,rfl,rfl,rfl,rfl,rfl,rfl,trivial⟩ (fun _=>rfl)⟩
       | true =>
         rw [if_pos rfl] at res
         have hrow : T.map lkC ++ [lkC e] = (T ++ [e]).map lkC:=by simp
         simp only [lkC] at hrow
         have hl2 : (T ++ [e]).length = T.length + 1:=by simp
         have r1 : (T ++ [e]) ++ restK x d2 (l.drop (k + 1)) = putK x l:=by rw [← res]; simp
         generalize T ++ [e] = T2 at *
         have r2 : T2.length ≤ k + 1 + d2.toNat:=by omega
         clear hdn res hT
         by_cases n1 : (e.fr != x.fr) = true
         · clear hB
           repeat' (first | intro (hb : _ = _) | refine ZV ?_ | refine ZB tm ptl_specs_ok ?_ | refine ZH ?_ ?_ | refine ZJ (by conv=>lhs; simp [n1,hw,g3,g4,g5,gM,g8,y1,y2,y4,fT,hrow,m1]) ?_ | refine ZA ?_ ?_)
           exact ⟨⟨k + 1,d2,T2,g + 1,_,hlt,r2,r1,by simp [lk_st,g3,lkC],by simp [lk_st,g4],by simp [lk_st,hl2],by simp [lk_st]⟩,by dsimp only; omega,AS.le_of rfl ⟨rfl,rfl,rfl,rfl,rfl,rfl,rfl,trivial⟩ (fun _=>rfl)⟩
         · have n1 : (e.fr != x.fr) = false:=by simpa using n1
           have n2 : (e.to != x.to) = true:=by rw [n1] at hB; simpa using hB
           clear hB
           repeat' (first | intro (hb : _ = _) | refine ZV ?_ | refine ZB tm ptl_specs_ok ?_ | refine ZH ?_ ?_ | refine ZJ (by conv=>lhs; simp [n1,n2,hw,g3,g4,g5,gM,g8,y1,y2,y4,fT,hrow,m1]) ?_ | refine ZA ?_ ?_)
           exact ⟨⟨k + 1,d2,T2,g + 1,_,hlt,r2,r1,by simp [lk_st,g3,lkC],by simp [lk_st,g4],by simp [lk_st,hl2],by simp [lk_st]⟩,by dsimp only; omega,AS.le_of rfl ⟨rfl,rfl,rfl,rfl,rfl,rfl,rfl,trivial⟩ (fun _=>rfl)⟩)
end
section
attribute [local simp] instA slice3A slice3C
attribute [-simp] mkv
attribute [local simp] mkv_hd hdA_cons hdA_ob hdA_ob'
def rN (l : List Lk) (e : Int) : AV := .tup [.agg [.list 4 (l.map lkC)], .int .i64 e]
theorem rN_nrm (l : List Lk) (e : Int) : nrmR Try.prog [34,38] (rN l e) = rN l e := by
 simp only [rN,nrmR,nrmL,nrmV,nwLeafs,uK,nrmRows_map lkC_nrm]
theorem rN_nrm0 (e : Int) : nrmR Try.prog [34,38] (.tup [.agg [.nils], .int .i64 e]) = rN [] e := by
 simp only [rN,nrmR,nrmL,nrmV,nwLeafs,uK,cK,List.map_nil]
noncomputable def sndN (ls : List Lk) (m : Msg) : List Lk × Int :=
 if validK ls = false then ([],1) else if (!okN m.fr || !okN m.to) = true then ([],2) else
   let l:=fndK m.fr m.to ls
   if 4096 ≤ l.q.length then ([],9) else (putK ⟨l.fr,l.to,l.cut,l.q ++ [m]⟩ ls,0)
noncomputable def sdkS : SpecFn := mkS (fun d : Nts × Msg => [d.1.v, .agg d.2.v]) fun d => (rN (sndN d.1.ls d.2).1 (sndN d.1.ls d.2).2,[])
theorem msgv1_inj {a b : Msg} (h : a.v = b.v) : a = b := by
 have:=msgv_inj (l:=[a]) (m:=[b]) (by simp only [List.map_cons,List.map_nil,h])
 simpa using this
theorem sdkS_eq (d : Nts) (m : Msg) : sdkS [d.v, .agg m.v] [] = some (rN (sndN d.ls m).1 (sndN d.ls m).2,[]) :=
 mkS_eq (enc:=fun d : Nts × Msg=>[d.1.v,AV.agg d.2.v]) (res:=fun d=>(rN (sndN d.1.ls d.2).1 (sndN d.1.ls d.2).2,[])) (fun x y h=>by
   obtain ⟨a,b⟩:=x
   obtain ⟨a',b'⟩:=y
   simp only [List.cons.injEq,AV.agg.injEq,and_true] at h
   cases Nts.v_inj h.1
   cases msgv1_inj h.2
   rfl) (d,m)
theorem fndK_ok {ls : List Lk} (he : ∀ l ∈ ls,okK l) (f t : Int) : okK (fndK f t ls) := by
 unfold fndK
 cases hf : ls.find? (lkIs f t) with
 | none=>exact Nat.zero_le _
 | some e=>exact he e (List.mem_of_find?_eq_some hf)
noncomputable def sdk_specs : NL Spec := [(57,⟨1,vkS⟩),(58,⟨1,boS okN⟩),(59,⟨1,fnkS⟩),(60,⟨1,ptlS⟩)]
theorem sdk_specs_ok : ∀ p ∈ sdk_specs,FnC Try.prog p.1 p.2.fn := by
 simp only [sdk_specs,List.mem_cons,List.not_mem_nil,or_false]
 rintro p (rfl | rfl | rfl | rfl)
 · exact rvk21_ok
 · exact nnode_ok
 · exact fnk_ok
 · exact ptl_ok
attribute [local simp] sdk_specs
theorem sdk_ok : FnC Try.prog 30 sdkS := by
 refine FnC.walkN 30 (fn:=Try.f30) [34,38] Try.func30 rfl (by kernel_rfl) (fun x=>?_) (fun x=>⟨_,rN_nrm _ _⟩)
 obtain ⟨⟨l,hl,he⟩,⟨u1,u2,u3,u4,u5,mo,u6,u7,u8,u9⟩⟩:=x
 have cv:=vkS_eq ⟨l,hl,he⟩
 have c1:=boS_eq okN u1
 have c2:=boS_eq okN u2
 have ce:=fnkS_eq ⟨l,hl,he⟩ u1 u2
 simp only [Nts.v] at cv ce
 change W _ (RetNf _ _ _ (rN (sndN l ⟨u1,u2,u3,u4,u5,mo,u6,u7,u8,u9⟩).1 (sndN l ⟨u1,u2,u3,u4,u5,mo,u6,u7,u8,u9⟩).2) []) _ _ ⟨43,[(0, .agg [.list 4 (l.map lkC)]),(1, .agg (.int .i64 u1 :: .int .i64 u2 :: .int .i64 u3 :: .int .u64 u4 :: .int .i64 u5 :: (mo.cells ++ [.int .u64 u6, .int .i64 u7, .int .u64 u8, .int .i64 u9])))],[]⟩
 generalize hR : sndN l ⟨u1,u2,u3,u4,u5,mo,u6,u7,u8,u9⟩ = R
 unfold sndN at hR
 dsimp only at hR
 cases hv : validK l with
 | false =>
   rw [if_pos hv] at hR
   subst hR
   rw [hv] at cv
   repeat' (first | intro (hb : _ = _) | refine ZV ?_ | refine ZB tm sdk_specs_ok ?_ | refine ZH ?_ ?_ | refine ZJ (by conv=>lhs; simp [cv]) ?_ | refine ZA ?_ ?_)
   refine Ye ?_
   exact rN_nrm0 1
 | true =>
   rw [if_neg (by simp [hv])] at hR
   rw [hv] at cv
   cases hn1 : okN u1 with
   | false =>
     rw [if_pos (by simp [hn1])] at hR
     subst hR
     rw [hn1] at c1
     repeat' (first | intro (hb : _ = _) | refine ZV ?_ | refine ZB tm sdk_specs_ok ?_ | refine ZH ?_ ?_ | refine ZJ (by conv=>lhs; simp [cv,c1]) ?_ | refine ZA ?_ ?_)
     refine Ye ?_
     exact rN_nrm0 2
   | true =>
     rw [hn1] at c1
     cases hn2 : okN u2 with
     | false =>
       rw [if_pos (by simp [hn2])] at hR
       subst hR
       rw [hn2] at c2
       repeat' (first | intro (hb : _ = _) | refine ZV ?_ | refine ZB tm sdk_specs_ok ?_ | refine ZH ?_ ?_ | refine ZJ (by conv=>lhs; simp [cv,c1,c2]) ?_ | refine ZA ?_ ?_)
       refine Ye ?_
       exact rN_nrm0 2
     | true =>
       rw [hn2] at c2
       rw [if_neg (by simp [hn1,hn2])] at hR
       have oe:=fndK_ok he u1 u2
       generalize fndK u1 u2 l = e at *
       obtain ⟨e1,e2,e3,q⟩:=e
       unfold okK at oe
       dsimp only at oe hR
       simp only [lkC] at ce
       have y4 : q.length ≤ 9223372036854775807:=by omega
       by_cases hb : 4096 ≤ q.length
       · rw [if_pos hb] at hR
         subst hR
         have b1 : (4096 : Int) ≤ q.length:=by omega
         repeat' (first | intro (hb : _ = _) | refine ZV ?_ | refine ZB tm sdk_specs_ok ?_ | refine ZH ?_ ?_ | refine ZJ (by conv=>lhs; simp [cv,c1,c2,ce,y4,b1]) ?_ | refine ZA ?_ ?_)
         refine Ye ?_
         exact rN_nrm0 9
       · rw [if_neg hb] at hR
         have b1 : ¬ (4096 : Int) ≤ q.length:=by omega
         obtain ⟨Q,hQ⟩ : ∃ Q,q ++ [(⟨u1,u2,u3,u4,u5,mo,u6,u7,u8,u9⟩ : Msg)] = Q:=⟨_,rfl⟩
         have hQl : Q.length = q.length + 1:=by rw [← hQ]; simp
         have hQm : q.map Msg.v ++ [.int .i64 u1 :: .int .i64 u2 :: .int .i64 u3 :: .int .u64 u4 :: .int .i64 u5 :: (mo.cells ++ [.int .u64 u6, .int .i64 u7, .int .u64 u8, .int .i64 u9])] = Q.map Msg.v:=by rw [← hQ]; simp
         rw [hQ] at hR
         have cP:=ptlS_eq ⟨⟨l,hl,he⟩,⟨e1,e2,e3,Q⟩,by unfold okK; dsimp only; omega⟩
         simp only [Nts.v,lkC] at cP
         generalize putK ⟨e1,e2,e3,Q⟩ l = L at *
         subst hR
         have y5 : q.length * 536 ≤ 140737488355328:=by omega
         have y1 : q.length ≤ maxLen:=by simp only [maxLen]; omega
         have y2 : (q.length + 1) * 536 ≤ 140737488355328:=by omega
         have y3 : q.length + 1 ≤ maxLen:=by simp only [maxLen]; omega
         have fq : firstRows q.length (q.map Msg.v) = q.map Msg.v:=first_all (by simp)
         have tq : List.take q.length (q.map Msg.v) = q.map Msg.v:=List.take_of_length_le (by simp)
         have t4 : List.take (q.length + 1) (Q.map Msg.v) = Q.map Msg.v:=List.take_of_length_le (by simp; omega)
         clear hb hQ oe hn1 hn2 hv
         repeat' (first | intro (hb : _ = _) | refine ZV ?_ | refine ZB tm sdk_specs_ok ?_ | refine ZH ?_ ?_ | refine ZJ (by conv=>lhs; simp [cv,c1,c2,ce,b1,y1,y2,y3,y4,y5,fq,tq,t4,hQl,hQm,m1,cP]) ?_ | refine ZA ?_ ?_)
         refine Ye ?_
         exact rN_nrm L 0
noncomputable def mz : Msg := ⟨0,0,0,0,0,zOb,0,0,0,0⟩
def rDl (m : Msg) (l : List Lk) (e : Int) : AV := .tup [.agg m.v, .agg [.list 4 (l.map lkC)], .int .i64 e]
theorem rDl_nrm (m : Msg) (l : List Lk) (e : Int) : nrmR Try.prog [75,34,38] (rDl m l e) = rDl m l e := by
 simp only [rDl,nrmR,nrmL,nrmV,msg_nrm,nwLeafs,uK,nrmRows_map lkC_nrm]
theorem rDl_nrm0 (e : Int) : nrmR Try.prog [75,34,38] (.tup [.agg (.int .i64 0 :: .int .i64 0 :: .int .i64 0 :: .int .u64 0 :: .int .i64 0 :: (zO ++ [.int .u64 0, .int .i64 0, .int .u64 0, .int .i64 0])), .agg [.nils], .int .i64 e]) = rDl mz [] e := by
 simp only [rDl,nrmR,nrmL,nrmV,msg_nrm0,nwLeafs,uK,cK,List.map_nil,mz]
noncomputable def dlvN (ls : List Lk) (f t : Int) : Msg × List Lk × Int :=
 if validK ls = false then (mz,[],1) else
   let l:=fndK f t ls
   match l.q with
   | []=>(mz,[],6)
   | m :: r=>if l.cut then (mz,[],8) else (m,putK ⟨l.fr,l.to,l.cut,r⟩ ls,0)
noncomputable def dlvS : SpecFn := mkS (fun d : Nts × Int × Int => [d.1.v, .int .i64 d.2.1, .int .i64 d.2.2]) fun d => (rDl (dlvN d.1.ls d.2.1 d.2.2).1 (dlvN d.1.ls d.2.1 d.2.2).2.1 (dlvN d.1.ls d.2.1 d.2.2).2.2,[])
theorem dlvS_eq (d : Nts) (f t : Int) : dlvS [d.v, .int .i64 f, .int .i64 t] [] = some (rDl (dlvN d.ls f t).1 (dlvN d.ls f t).2.1 (dlvN d.ls f t).2.2,[]) :=
 mkS_eq (enc:=fun d : Nts × Int × Int=>[d.1.v,AV.int .i64 d.2.1, .int .i64 d.2.2]) (res:=fun d=>(rDl (dlvN d.1.ls d.2.1 d.2.2).1 (dlvN d.1.ls d.2.1 d.2.2).2.1 (dlvN d.1.ls d.2.1 d.2.2).2.2,[])) (fun x y h=>by
   obtain ⟨a,b,c⟩:=x
   obtain ⟨a',b',c'⟩:=y
   simp only [List.cons.injEq,AV.int.injEq,true_and,and_true] at h
   obtain ⟨h1,rfl,rfl⟩:=h
   cases Nts.v_inj h1
   rfl) (d,f,t)
noncomputable def dlv_specs : NL Spec := [(57,⟨1,vkS⟩),(59,⟨1,fnkS⟩),(60,⟨1,ptlS⟩)]
theorem dlv_specs_ok : ∀ p ∈ dlv_specs,FnC Try.prog p.1 p.2.fn := by
 simp only [dlv_specs,List.mem_cons,List.not_mem_nil,or_false]
 rintro p (rfl | rfl | rfl)
 · exact rvk21_ok
 · exact fnk_ok
 · exact ptl_ok
attribute [local simp] dlv_specs
theorem dlv_ok : FnC Try.prog 34 dlvS := by
 refine FnC.walkN 34 (fn:=Try.f34) [75,34,38] Try.func34 rfl (by kernel_rfl) (fun x=>?_) (fun x=>⟨_,rDl_nrm _ _ _⟩)
 obtain ⟨⟨l,hl,he⟩,f,t⟩:=x
 have cv:=vkS_eq ⟨l,hl,he⟩
 have ce:=fnkS_eq ⟨l,hl,he⟩ f t
 simp only [Nts.v] at cv ce
 change W _ (RetNf _ _ _ (rDl (dlvN l f t).1 (dlvN l f t).2.1 (dlvN l f t).2.2) []) _ _ ⟨43,[(0, .agg [.list 4 (l.map lkC)]),(1, .int .i64 f),(2, .int .i64 t)],[]⟩
 generalize hR : dlvN l f t = R
 unfold dlvN at hR
 dsimp only at hR
 cases hv : validK l with
 | false =>
   rw [if_pos hv] at hR
   subst hR
   rw [hv] at cv
   repeat' (first | intro (hb : _ = _) | refine ZV ?_ | refine ZB tm dlv_specs_ok ?_ | refine ZH ?_ ?_ | refine ZJ (by conv=>lhs; simp [cv]) ?_ | refine ZA ?_ ?_)
   refine Ye ?_
   exact rDl_nrm0 1
 | true =>
   rw [if_neg (by simp [hv])] at hR
   rw [hv] at cv
   have oe:=fndK_ok he f t
   generalize fndK f t l = e at *
   obtain ⟨e1,e2,e3,q⟩:=e
   unfold okK at oe
   dsimp only at oe hR
   simp only [lkC] at ce
   clear hv
   cases q with
   | nil =>
     dsimp only at hR
     subst hR
     simp only [List.map_nil] at ce
     repeat' (first | intro (hb : _ = _) | refine ZV ?_ | refine ZB tm dlv_specs_ok ?_ | refine ZH ?_ ?_ | refine ZJ (by conv=>lhs; simp [cv,ce]) ?_ | refine ZA ?_ ?_)
     refine Ye ?_
     exact rDl_nrm0 6
   | cons m r =>
     dsimp only at hR
     simp only [List.length_cons] at oe
     have w3 : r.length + 1 ≤ 9223372036854775807:=by omega
     have w4 : ((r.length : Int) + 1 == 0) = false:=by simp; omega
     simp only [List.map_cons] at ce
     cases e3 with
     | true =>
       rw [if_pos rfl] at hR
       subst hR
       repeat' (first | intro (hb : _ = _) | refine ZV ?_ | refine ZB tm dlv_specs_ok ?_ | refine ZH ?_ ?_ | refine ZJ (by conv=>lhs; simp [cv,ce,w3,w4]) ?_ | refine ZA ?_ ?_)
       refine Ye ?_
       exact rDl_nrm0 8
     | false =>
       rw [if_neg (by simp)] at hR
       have cP:=ptlS_eq ⟨⟨l,hl,he⟩,⟨e1,e2,false,r⟩,by unfold okK; dsimp only; omega⟩
       simp only [Nts.v,lkC] at cP
       generalize putK ⟨e1,e2,false,r⟩ l = L at *
       subst hR
       obtain ⟨u1,u2,u3,u4,u5,mo,u6,u7,u8,u9⟩:=m
       simp only [Msg.v] at ce
       have z1 : r.length * 536 ≤ 140737488355328:=by omega
       have z2 : r.length ≤ maxLen:=by simp only [maxLen]; omega
       have z3 : r.length ≤ 9223372036854775807:=by omega
       have tr : List.take r.length (r.map Msg.v) = r.map Msg.v:=List.take_of_length_le (by simp)
       clear oe
       repeat' (first | intro (hb : _ = _) | refine ZV ?_ | refine ZB tm dlv_specs_ok ?_ | refine ZH ?_ ?_ | refine ZJ (by conv=>lhs; simp [cv,ce,w3,w4,z1,z2,z3,tr,cP]) ?_ | refine ZA ?_ ?_)
       refine Ye ?_
       exact rDl_nrm ⟨u1,u2,u3,u4,u5,mo,u6,u7,u8,u9⟩ L 0
end
section
attribute [local simp] instA slice3A slice3C
attribute [-simp] mkv
attribute [local simp] mkv_hd hdA_cons hdA_ob hdA_ob'
structure Grd where
 t0 : List Tok
 t1 : List Tok
 t2 : List Tok
 es : List En
 ls : List Lk
 v0 : Int
 v1 : Int
def Grd.row (g : Grd) : List AV := [.int .i64 0, .list 41 (g.t0.map Tok.c), .int .i64 1, .list 41 (g.t1.map Tok.c), .int .i64 2, .list 41 (g.t2.map Tok.c), .int .i64 0, .list 41 (g.es.map enC), .list 4 (g.ls.map lkC), .int .i64 g.v0, .int .i64 g.v1]
def grB (n : Nat) (g : Grd) : ABlk := { gen := n,kind := 2,elem := 37,size := 11,rows := [g.row] }
theorem toks_inj {l m : List Tok} (h : l.map Tok.c = m.map Tok.c) : l = m := map_inj' (fun a b h => Tok.c_inj h) h
theorem grB_inj {a b : Grd} (h : grB 0 a = grB 0 b) : a = b := by
 obtain ⟨a1,a2,a3,a4,a5,a6,a7⟩:=a
 obtain ⟨b1,b2,b3,b4,b5,b6,b7⟩:=b
 simp only [grB,Grd.row,ABlk.mk.injEq,List.cons.injEq,AV.list.injEq,AV.int.injEq,true_and,and_true] at h
 obtain ⟨h1,h2,h3,h4,h5,h6,h7⟩:=h
 cases toks_inj h1
 cases toks_inj h2
 cases toks_inj h3
 cases enCs_inj h4
 cases lks_inj h5
 rw [h6,h7]
def SendOK : List Lk → List Msg → Prop
 | _,[]=>True
 | ls,m :: r=>ls.length ≤ 9000 ∧ (∀ l ∈ ls,okK l) ∧ (sndN ls m).2 = 0 ∧ SendOK (sndN ls m).1 r
noncomputable def sendF : List Lk → List Msg → List Lk
 | ls,[]=>ls
 | ls,m :: r=>sendF (sndN ls m).1 r
def GS := { x : Grd × List Msg // x.2.length ≤ 9000 ∧ SendOK x.1.ls x.2 }
noncomputable def Grd.sent (g : Grd) (ms : List Msg) : Grd := { g with ls := sendF g.ls ms }
noncomputable def gsnS : SpecFn := mkS2 (fun x : GS => ([.ptr 0 0 0 0, .list 45 (x.1.2.map Msg.v)],[grB 0 x.1.1])) fun x => (.bool true,[grB 0 (x.1.1.sent x.1.2)])
theorem gsnS_eq (g : Grd) (ms : List Msg) (h1 : ms.length ≤ 9000) (h2 : SendOK g.ls ms) : gsnS [.ptr 0 0 0 0, .list 45 (ms.map Msg.v)] [grB 0 g] = some (.bool true,[grB 0 (g.sent ms)]) :=
 mkS2_eq (enc:=fun x : GS=>([.ptr 0 0 0 0, .list 45 (x.1.2.map Msg.v)],[grB 0 x.1.1])) (res:=fun x : GS=>(.bool true,[grB 0 (x.1.1.sent x.1.2)])) (fun x y h=>by
   simp only [Prod.mk.injEq,List.cons.injEq,AV.list.injEq,true_and,and_true] at h
   rw [show x = y from Subtype.ext (Prod.ext (grB_inj h.2) (msgv_inj h.1))]) (⟨(g,ms),h1,h2⟩ : GS)
noncomputable def gsn_specs : NL Spec := [(30,⟨1,sdkS⟩)]
theorem gsn_specs_ok : ∀ p ∈ gsn_specs,FnC Try.prog p.1 p.2.fn := by
 simp only [gsn_specs,List.mem_cons,List.not_mem_nil,or_false]
 rintro p rfl
 exact sdk_ok
attribute [local simp] gsn_specs
theorem gsn_ok : FnC Try.prog 8 gsnS := by
 refine FnC.walkB 8 (fn:=Try.f8) Try.func8 rfl (by kernel_rfl) (fun x b hb=>by simp at hb; rw [hb]; rfl) fun x=>?_
 obtain ⟨⟨g,ms⟩,hl,hs⟩:=x
 dsimp only at hl hs
 obtain ⟨L,hL⟩ : ∃ L,sendF g.ls ms = L:=⟨_,rfl⟩
 change W _ (RetB _ _ 1 (.bool true) [grB 0 { g with ls:=sendF g.ls ms }]) _ _ ⟨31,[(0, .ptr 0 0 0 0),(1, .list 45 (ms.map Msg.v))],[(0,grB 0 g)]⟩
 rw [hL]
 obtain ⟨a1,a2,a3,a4,ls,v0,v1⟩:=g
 dsimp only at hs hL ⊢
 have cap1 : ms.length ≤ 9223372036854775807:=by omega
 repeat' (first | intro (hb : _ = _) | refine ZV ?_ | refine ZB tm gsn_specs_ok ?_ | refine ZH ?_ ?_ | refine ZJ (by conv=>lhs; simp [cap1]) ?_ | refine ZA ?_ ?_)
 refine W.loop rfl (ι:={ p : Nat × NL ABlk × List Lk // p.1 ≤ ms.length ∧ SendOK p.2.2 (ms.drop p.1) ∧ sendF p.2.2 (ms.drop p.1) = L ∧ lk p.2.1 0 = some (grB 0 ⟨a1,a2,a3,a4,p.2.2,v0,v1⟩) })
   (fun p=>⟨31,[(0, .ptr 0 0 0 0),(9, .list 45 (ms.map Msg.v)),(10, .int .i64 ms.length),(11, .int .i64 (p.1.1 : Nat))],p.1.2.1⟩) (fun p=>ms.length - p.1.1)
   ⟨(0,_,ls),by simp,hs,hL,rfl⟩ (AS.le_of rfl ⟨rfl,rfl,rfl,rfl,trivial⟩ (fun _=>rfl)) ?_
 clear hs hL
 rintro ⟨⟨k,h,l⟩,hk,hs,hL,h0⟩
 dsimp only at hk hs hL h0 ⊢
 by_cases hk2 : k = ms.length
 · subst hk2
   have q1 : ¬ (ms.length : Int) < ms.length:=by omega
   rw [List.drop_length] at hL
   have hL : l = L:=hL
   subst hL
   repeat' (first | intro (hb : _ = _) | refine ZV ?_ | refine ZB tm gsn_specs_ok ?_ | refine ZH ?_ ?_ | refine ZJ (by conv=>lhs; simp [q1,h0]) ?_ | refine ZA ?_ ?_)
   refine RetB.raw [0] rfl (by conv=>lhs; simp) (by decide) (by rintro j hj; have hj : j < 1:=hj; rcases (show j = 0 by omega) with rfl; exact ⟨rfl,by simp [h0,grB]⟩) (by simp [h0,grB,Grd.row,renL,AV.ren]) (by simp)
 · have hlt : k < ms.length:=by omega
   obtain ⟨x,hr⟩:=get_lt hlt
   have hm : (ms.map Msg.v)[k]? = some x.v:=by rw [List.getElem?_map,hr]; rfl
   have q1 : (k : Int) < ms.length:=by omega
   have q2 : ¬ ms.length ≤ k:=by omega
   have hw : IntKind.i64.wrap ((k : Int) + 1) = ((k + 1 : Nat) : Int):=w64 (by omega) (by omega)
   have hd : ms.drop k = x :: ms.drop (k + 1):=by
     obtain ⟨h1,h2⟩:=List.getElem?_eq_some_iff.1 hr
     rw [← h2]
     exact List.drop_eq_getElem_cons h1
   rw [hd] at hs hL
   obtain ⟨s1,s2,s3,s4⟩:=hs
   have hL2 : sendF (sndN l x).1 (ms.drop (k + 1)) = L:=hL
   clear hL
   have cs:=sdkS_eq ⟨l,s1,s2⟩ x
   rw [show (sndN (⟨l,s1,s2⟩ : Nts).ls x).2 = 0 from s3] at cs
   simp only [Nts.v,rN] at cs
   generalize (sndN l x).1 = l' at *
   obtain ⟨c1,c2,c3,c4,c5,p,c6,c7,c8,c9⟩:=x
   simp only [Msg.v] at cs hm
   simp only [grB,Grd.row] at h0
   clear hd hlt hk2 s3
   repeat' (first | intro (hb : _ = _) | refine ZV ?_ | refine ZB tm gsn_specs_ok ?_ | refine ZH ?_ ?_ | refine ZJ (by conv=>lhs; simp [q1,q2,hm,hw,h0,cs]) ?_ | refine ZA ?_ ?_)
   exact ⟨⟨(k + 1,_,l'),by dsimp only; omega,s4,hL2,by simp [lk_st,grB,Grd.row]⟩,by dsimp only; omega,AS.le_of rfl ⟨rfl,rfl,rfl,rfl,trivial⟩ (fun _=>rfl)⟩
end
section
attribute [local simp] instA slice3A slice3C makeSliceA
attribute [-simp] mkv
attribute [local simp] mkv_hd hdA_cons hdA_ob hdA_ob'
def Grd.tk (g : Grd) (n : Int) : List Tok := if n = 0 then g.t0 else if n = 1 then g.t1 else g.t2
def Grd.set (g : Grd) (n : Int) (l : List Tok) : Grd := if n = 0 then { g with t0 := l } else if n = 1 then { g with t1 := l } else { g with t2 := l }
def N3 (n : Int) : Prop := n = 0 ∨ n = 1 ∨ n = 2
noncomputable def upM (n : Int) (l : List Tok) : List Msg := unpM n l (List.replicate (dues l).length 0)
theorem idxN_rep : ∀ k j : Nat,idxN j (List.replicate k 0) = -1
 | 0,_=>rfl
 | k + 1,j=>by
   rw [List.replicate_succ,idxN,if_neg (by decide)]
   exact idxN_rep k (j + 1)
theorem unp_rep {n : Int} {l : List Tok} (hl : l.length ≤ 9000) (hv : valid n l = true) : unp ⟨n,l,hl⟩ (List.replicate (dues l).length 0) = (n,unpL l,upM n l,0) := by
 unfold unp
 dsimp only
 rw [if_neg (by simp [hv]),if_neg]
 · rfl
 · simp [badH,idxN_rep]
theorem upM_len (n : Int) (l : List Tok) : (upM n l).length ≤ l.length := by
 unfold upM unpM
 rw [List.length_zipWith]
 have : (dues l).length ≤ l.length:=List.length_filter_le _ _
 omega
structure GU where
 g : Grd
 n : Int
 hn : N3 n
 hl : (g.tk n).length ≤ 9000
 hv : valid n (g.tk n) = true
 hs : SendOK g.ls (upM n (g.tk n))
noncomputable def Grd.unpin (g : Grd) (n : Int) : Grd := (g.set n (unpL (g.tk n))).sent (upM n (g.tk n))
noncomputable def gunS : SpecFn := mkS2 (fun x : GU => ([.ptr 0 0 0 0, .int .i64 x.n],[grB 0 x.g])) fun x => (.bool true,[grB 0 (x.g.unpin x.n)])
theorem gunS_eq (x : GU) : gunS [.ptr 0 0 0 0, .int .i64 x.n] [grB 0 x.g] = some (.bool true,[grB 0 (x.g.unpin x.n)]) :=
 mkS2_eq (enc:=fun x : GU=>([AV.ptr 0 0 0 0, .int .i64 x.n],[grB 0 x.g])) (res:=fun x : GU=>(.bool true,[grB 0 (x.g.unpin x.n)])) (fun x y h=>by
   obtain ⟨g,n,_,_,_,_⟩:=x
   obtain ⟨g',n',_,_,_,_⟩:=y
   simp only [Prod.mk.injEq,List.cons.injEq,AV.int.injEq,true_and,and_true] at h
   obtain ⟨rfl,h⟩:=h
   cases grB_inj h
   rfl) x
noncomputable def gun_specs : NL Spec := [(17,⟨1,unpsS⟩),(8,⟨3,gsnS⟩)]
theorem gun_specs_ok : ∀ p ∈ gun_specs,FnC Try.prog p.1 p.2.fn := by
 simp only [gun_specs,List.mem_cons,List.not_mem_nil,or_false]
 rintro p (rfl | rfl)
 · exact unq_ok
 · exact gsn_ok
attribute [local simp] gun_specs
theorem nfI : (Try.prog.info? 3).map (fun i => (i.size,i.bytes)) = some (1,8) := by kernel_rfl
theorem nfI_ex : ∃ i,Try.prog.info? 3 = some i ∧ i.size = 1 ∧ i.bytes = 8 := by
 have h:=nfI
 rw [Option.map_eq_some_iff] at h
 obtain ⟨i,h1,h2⟩:=h
 exact ⟨i,h1,congrArg Prod.fst h2,congrArg Prod.snd h2⟩
theorem dues_len {l : List Tok} : (dues l).length ≤ l.length := List.length_filter_le _ _
theorem iC_rep (k : Nat) : List.replicate k ([.int .i64 0] : List AV) = (List.replicate k 0).map iC := by rw [List.map_replicate]; rfl
theorem gun_w0 (a1 a2 a3 : List Tok) (es : List En) (ls : List Lk) (v0 v1 : Int) (hl : a1.length ≤ 9000) (hv : valid 0 a1 = true) (hs : SendOK ls (upM 0 a1)) : W Try.prog (RetB Try.prog Try.f10 1 (.bool true) [grB 0 ((⟨unpL a1,a2,a3,es,ls,v0,v1⟩ : Grd).sent (upM 0 a1))]) (codeOf Try.f10) [] ⟨54,[(0, .ptr 0 0 0 0),(1, .int .i64 0)],[(0,grB 0 ⟨a1,a2,a3,es,ls,v0,v1⟩)]⟩ := by
 have cu:=unps_eq 0 a1 hl (List.replicate (dues a1).length 0) (by rw [List.length_replicate]; exact Nat.le_trans dues_len hl)
 have cs:=gsnS_eq ⟨unpL a1,a2,a3,es,ls,v0,v1⟩ (upM 0 a1) (Nat.le_trans (upM_len _ _) hl) hs
 rw [unpsR,unp_rep hl hv] at cu
 generalize unpL a1 = L at *
 generalize upM 0 a1 = ms at *
 generalize hG : (⟨L,a2,a3,es,ls,v0,v1⟩ : Grd).sent ms = G at *
 simp only [rU,grB,Grd.row] at cu cs
 have cap : a1.length ≤ 9223372036854775807:=by omega
 repeat' (first | intro (hb : _ = _) | refine ZV ?_ | refine ZB tm gun_specs_ok ?_ | refine ZH ?_ ?_ | refine ZJ (by conv=>lhs; simp [cap,grB,Grd.row]) ?_ | refine ZA ?_ ?_)
 refine W.loop rfl (ι:={ p : Nat × NL ABlk × Nat // p.1 ≤ a1.length ∧ lk p.2.1 0 = some (grB 0 ⟨a1,a2,a3,es,ls,v0,v1⟩) ∧ p.2.2 = (dues (a1.take p.1)).length })
   (fun p=>⟨54,[(0, .ptr 0 0 0 0),(1, .int .i64 0),(5, .int .i64 (p.1.2.2 : Nat)),(17, .list 41 (a1.map Tok.c)),(18, .int .i64 a1.length),(19, .int .i64 (p.1.1 : Nat))],p.1.2.1⟩) (fun p=>a1.length - p.1.1)
   ⟨(0,_,0),by simp,rfl,by simp [dues]⟩ (AS.le_of rfl ⟨rfl,rfl,rfl,rfl,rfl,rfl,trivial⟩ (fun _=>rfl)) ?_
 rintro ⟨⟨k,h,d0⟩,hk,h0,hd0⟩
 dsimp only at hk h0 hd0 ⊢
 simp only [grB,Grd.row] at h0
 by_cases hk2 : k = a1.length
 · subst hk2
   have q1 : ¬ (a1.length : Int) < a1.length:=by omega
   have dl := @dues_len a1
   rw [List.take_length] at hd0
   subst hd0
   have y1 : ((dues a1).length : Int) ≤ 9000:=by omega
   have y2 : 8 * ((dues a1).length : Int) ≤ 281474976710656:=by omega
   have y3 : ((dues a1).length : Int) ≤ 9223372036854775807:=by omega
   have y4 : (dues a1).length ≤ maxLen:=by simp only [maxLen]; omega
   have fr : firstRows (dues a1).length ((List.replicate (dues a1).length 0).map iC) = (List.replicate (dues a1).length 0).map iC:=first_all (by simp)
   have tk : List.take (dues a1).length ((List.replicate (dues a1).length 0).map iC) = (List.replicate (dues a1).length 0).map iC:=List.take_of_length_le (by simp)
   rw [← iC_rep] at cu fr tk
   generalize (dues a1).length = d at *
   obtain ⟨nf,nf1,nf2,nf3⟩:=nfI_ex
   clear hs hv hk dl
   repeat' (first | intro (hb : _ = _) | refine ZV ?_ | refine ZB tm gun_specs_ok ?_ | refine ZH ?_ ?_ | refine ZJ (by conv=>lhs; simp [q1,h0,y2,y3,y4,fr,tk,m1,cu,cs,nf1,nf2,nf3]) ?_ | refine ZA ?_ ?_)
   refine RetB.raw [0] rfl (by conv=>lhs; simp) (by decide) (by rintro j hj; have hj : j < 1:=hj; rcases (show j = 0 by omega) with rfl; exact ⟨rfl,by simp [lk_st]⟩) (by simp [lk_st,grB,Grd.row,renL,AV.ren]) (by simp)
 · have hlt : k < a1.length:=by omega
   obtain ⟨x,hr⟩:=get_lt hlt
   have hm : (a1.map Tok.c)[k]? = some x.c:=by rw [List.getElem?_map,hr]; rfl
   have q1 : (k : Int) < a1.length:=by omega
   have q2 : ¬ a1.length ≤ k:=by omega
   have hw : IntKind.i64.wrap ((k : Int) + 1) = ((k + 1 : Nat) : Int):=w64 (by omega) (by omega)
   have dl : (dues (a1.take k)).length ≤ k:=Nat.le_trans dues_len (by simp; omega)
   have hw2 : IntKind.i64.wrap (((dues (a1.take k)).length : Int) + 1) = (((dues (a1.take k)).length + 1 : Nat) : Int):=w64 (by omega) (by omega)
   have e0 : (dues (a1.take (k + 1))).length = if x.due = true then (dues (a1.take k)).length + 1 else (dues (a1.take k)).length:=by
     rw [take_app hr]
     by_cases hx : x.due = true <;> simp [dues,hx]
   obtain ⟨x1,x2,o,x3,x4,x5⟩:=x
   simp only [Tok.c] at hm
   dsimp only at e0
   rw [← hd0] at e0 hw2
   cases x5
   · rw [if_neg (by decide)] at e0
     repeat' (first | intro (hb : _ = _) | refine ZV ?_ | refine ZB tm gun_specs_ok ?_ | refine ZH ?_ ?_ | refine ZJ (by conv=>lhs; simp [q1,q2,hm,hw,h0]) ?_ | refine ZA ?_ ?_)
     exact ⟨⟨(k + 1,_,d0),by dsimp only; omega,by simp [lk_st,h0,grB,Grd.row],e0.symm⟩,by dsimp only; omega,AS.le_of rfl ⟨rfl,rfl,rfl,rfl,rfl,rfl,trivial⟩ (fun _=>rfl)⟩
   · rw [if_pos rfl] at e0
     repeat' (first | intro (hb : _ = _) | refine ZV ?_ | refine ZB tm gun_specs_ok ?_ | refine ZH ?_ ?_ | refine ZJ (by conv=>lhs; simp [q1,q2,hm,hw,h0,hw2]) ?_ | refine ZA ?_ ?_)
     exact ⟨⟨(k + 1,_,d0 + 1),by dsimp only; omega,by simp [lk_st,h0,grB,Grd.row],e0.symm⟩,by dsimp only; omega,AS.le_of rfl ⟨rfl,rfl,rfl,rfl,rfl,rfl,trivial⟩ (fun _=>rfl)⟩
theorem gun_w1 (a1 a2 a3 : List Tok) (es : List En) (ls : List Lk) (v0 v1 : Int) (hl : a2.length ≤ 9000) (hv : valid 1 a2 = true) (hs : SendOK ls (upM 1 a2)) : W Try.prog (RetB Try.prog Try.f10 1 (.bool true) [grB 0 ((⟨a1,unpL a2,a3,es,ls,v0,v1⟩ : Grd).sent (upM 1 a2))]) (codeOf Try.f10) [] ⟨54,[(0, .ptr 0 0 0 0),(1, .int .i64 1)],[(0,grB 0 ⟨a1,a2,a3,es,ls,v0,v1⟩)]⟩ := by
 have cu:=unps_eq 1 a2 hl (List.replicate (dues a2).length 0) (by rw [List.length_replicate]; exact Nat.le_trans dues_len hl)
 have cs:=gsnS_eq ⟨a1,unpL a2,a3,es,ls,v0,v1⟩ (upM 1 a2) (Nat.le_trans (upM_len _ _) hl) hs
 rw [unpsR,unp_rep hl hv] at cu
 generalize unpL a2 = L at *
 generalize upM 1 a2 = ms at *
 generalize hG : (⟨a1,L,a3,es,ls,v0,v1⟩ : Grd).sent ms = G at *
 simp only [rU,grB,Grd.row] at cu cs
 have cap : a2.length ≤ 9223372036854775807:=by omega
 repeat' (first | intro (hb : _ = _) | refine ZV ?_ | refine ZB tm gun_specs_ok ?_ | refine ZH ?_ ?_ | refine ZJ (by conv=>lhs; simp [cap,grB,Grd.row]) ?_ | refine ZA ?_ ?_)
 refine W.loop rfl (ι:={ p : Nat × NL ABlk × Nat // p.1 ≤ a2.length ∧ lk p.2.1 0 = some (grB 0 ⟨a1,a2,a3,es,ls,v0,v1⟩) ∧ p.2.2 = (dues (a2.take p.1)).length })
   (fun p=>⟨54,[(0, .ptr 0 0 0 0),(1, .int .i64 1),(5, .int .i64 (p.1.2.2 : Nat)),(17, .list 41 (a2.map Tok.c)),(18, .int .i64 a2.length),(19, .int .i64 (p.1.1 : Nat))],p.1.2.1⟩) (fun p=>a2.length - p.1.1)
   ⟨(0,_,0),by simp,rfl,by simp [dues]⟩ (AS.le_of rfl ⟨rfl,rfl,rfl,rfl,rfl,rfl,trivial⟩ (fun _=>rfl)) ?_
 rintro ⟨⟨k,h,d0⟩,hk,h0,hd0⟩
 dsimp only at hk h0 hd0 ⊢
 simp only [grB,Grd.row] at h0
 by_cases hk2 : k = a2.length
 · subst hk2
   have q1 : ¬ (a2.length : Int) < a2.length:=by omega
   have dl := @dues_len a2
   rw [List.take_length] at hd0
   subst hd0
   have y1 : ((dues a2).length : Int) ≤ 9000:=by omega
   have y2 : 8 * ((dues a2).length : Int) ≤ 281474976710656:=by omega
   have y3 : ((dues a2).length : Int) ≤ 9223372036854775807:=by omega
   have y4 : (dues a2).length ≤ maxLen:=by simp only [maxLen]; omega
   have fr : firstRows (dues a2).length ((List.replicate (dues a2).length 0).map iC) = (List.replicate (dues a2).length 0).map iC:=first_all (by simp)
   have tk : List.take (dues a2).length ((List.replicate (dues a2).length 0).map iC) = (List.replicate (dues a2).length 0).map iC:=List.take_of_length_le (by simp)
   rw [← iC_rep] at cu fr tk
   generalize (dues a2).length = d at *
   obtain ⟨nf,nf1,nf2,nf3⟩:=nfI_ex
   clear hs hv hk dl
   repeat' (first | intro (hb : _ = _) | refine ZV ?_ | refine ZB tm gun_specs_ok ?_ | refine ZH ?_ ?_ | refine ZJ (by conv=>lhs; simp [q1,h0,y2,y3,y4,fr,tk,m1,cu,cs,nf1,nf2,nf3]) ?_ | refine ZA ?_ ?_)
   refine RetB.raw [0] rfl (by conv=>lhs; simp) (by decide) (by rintro j hj; have hj : j < 1:=hj; rcases (show j = 0 by omega) with rfl; exact ⟨rfl,by simp [lk_st]⟩) (by simp [lk_st,grB,Grd.row,renL,AV.ren]) (by simp)
 · have hlt : k < a2.length:=by omega
   obtain ⟨x,hr⟩:=get_lt hlt
   have hm : (a2.map Tok.c)[k]? = some x.c:=by rw [List.getElem?_map,hr]; rfl
   have q1 : (k : Int) < a2.length:=by omega
   have q2 : ¬ a2.length ≤ k:=by omega
   have hw : IntKind.i64.wrap ((k : Int) + 1) = ((k + 1 : Nat) : Int):=w64 (by omega) (by omega)
   have dl : (dues (a2.take k)).length ≤ k:=Nat.le_trans dues_len (by simp; omega)
   have hw2 : IntKind.i64.wrap (((dues (a2.take k)).length : Int) + 1) = (((dues (a2.take k)).length + 1 : Nat) : Int):=w64 (by omega) (by omega)
   have e0 : (dues (a2.take (k + 1))).length = if x.due = true then (dues (a2.take k)).length + 1 else (dues (a2.take k)).length:=by
     rw [take_app hr]
     by_cases hx : x.due = true <;> simp [dues,hx]
   obtain ⟨x1,x2,o,x3,x4,x5⟩:=x
   simp only [Tok.c] at hm
   dsimp only at e0
   rw [← hd0] at e0 hw2
   cases x5
   · rw [if_neg (by decide)] at e0
     repeat' (first | intro (hb : _ = _) | refine ZV ?_ | refine ZB tm gun_specs_ok ?_ | refine ZH ?_ ?_ | refine ZJ (by conv=>lhs; simp [q1,q2,hm,hw,h0]) ?_ | refine ZA ?_ ?_)
     exact ⟨⟨(k + 1,_,d0),by dsimp only; omega,by simp [lk_st,h0,grB,Grd.row],e0.symm⟩,by dsimp only; omega,AS.le_of rfl ⟨rfl,rfl,rfl,rfl,rfl,rfl,trivial⟩ (fun _=>rfl)⟩
   · rw [if_pos rfl] at e0
     repeat' (first | intro (hb : _ = _) | refine ZV ?_ | refine ZB tm gun_specs_ok ?_ | refine ZH ?_ ?_ | refine ZJ (by conv=>lhs; simp [q1,q2,hm,hw,h0,hw2]) ?_ | refine ZA ?_ ?_)
     exact ⟨⟨(k + 1,_,d0 + 1),by dsimp only; omega,by simp [lk_st,h0,grB,Grd.row],e0.symm⟩,by dsimp only; omega,AS.le_of rfl ⟨rfl,rfl,rfl,rfl,rfl,rfl,trivial⟩ (fun _=>rfl)⟩
theorem gun_w2 (a1 a2 a3 : List Tok) (es : List En) (ls : List Lk) (v0 v1 : Int) (hl : a3.length ≤ 9000) (hv : valid 2 a3 = true) (hs : SendOK ls (upM 2 a3)) : W Try.prog (RetB Try.prog Try.f10 1 (.bool true) [grB 0 ((⟨a1,a2,unpL a3,es,ls,v0,v1⟩ : Grd).sent (upM 2 a3))]) (codeOf Try.f10) [] ⟨54,[(0, .ptr 0 0 0 0),(1, .int .i64 2)],[(0,grB 0 ⟨a1,a2,a3,es,ls,v0,v1⟩)]⟩ := by
 have cu:=unps_eq 2 a3 hl (List.replicate (dues a3).length 0) (by rw [List.length_replicate]; exact Nat.le_trans dues_len hl)
 have cs:=gsnS_eq ⟨a1,a2,unpL a3,es,ls,v0,v1⟩ (upM 2 a3) (Nat.le_trans (upM_len _ _) hl) hs
 rw [unpsR,unp_rep hl hv] at cu
 generalize unpL a3 = L at *
 generalize upM 2 a3 = ms at *
 generalize hG : (⟨a1,a2,L,es,ls,v0,v1⟩ : Grd).sent ms = G at *
 simp only [rU,grB,Grd.row] at cu cs
 have cap : a3.length ≤ 9223372036854775807:=by omega
 repeat' (first | intro (hb : _ = _) | refine ZV ?_ | refine ZB tm gun_specs_ok ?_ | refine ZH ?_ ?_ | refine ZJ (by conv=>lhs; simp [cap,grB,Grd.row]) ?_ | refine ZA ?_ ?_)
 refine W.loop rfl (ι:={ p : Nat × NL ABlk × Nat // p.1 ≤ a3.length ∧ lk p.2.1 0 = some (grB 0 ⟨a1,a2,a3,es,ls,v0,v1⟩) ∧ p.2.2 = (dues (a3.take p.1)).length })
   (fun p=>⟨54,[(0, .ptr 0 0 0 0),(1, .int .i64 2),(5, .int .i64 (p.1.2.2 : Nat)),(17, .list 41 (a3.map Tok.c)),(18, .int .i64 a3.length),(19, .int .i64 (p.1.1 : Nat))],p.1.2.1⟩) (fun p=>a3.length - p.1.1)
   ⟨(0,_,0),by simp,rfl,by simp [dues]⟩ (AS.le_of rfl ⟨rfl,rfl,rfl,rfl,rfl,rfl,trivial⟩ (fun _=>rfl)) ?_
 rintro ⟨⟨k,h,d0⟩,hk,h0,hd0⟩
 dsimp only at hk h0 hd0 ⊢
 simp only [grB,Grd.row] at h0
 by_cases hk2 : k = a3.length
 · subst hk2
   have q1 : ¬ (a3.length : Int) < a3.length:=by omega
   have dl := @dues_len a3
   rw [List.take_length] at hd0
   subst hd0
   have y1 : ((dues a3).length : Int) ≤ 9000:=by omega
   have y2 : 8 * ((dues a3).length : Int) ≤ 281474976710656:=by omega
   have y3 : ((dues a3).length : Int) ≤ 9223372036854775807:=by omega
   have y4 : (dues a3).length ≤ maxLen:=by simp only [maxLen]; omega
   have fr : firstRows (dues a3).length ((List.replicate (dues a3).length 0).map iC) = (List.replicate (dues a3).length 0).map iC:=first_all (by simp)
   have tk : List.take (dues a3).length ((List.replicate (dues a3).length 0).map iC) = (List.replicate (dues a3).length 0).map iC:=List.take_of_length_le (by simp)
   rw [← iC_rep] at cu fr tk
   generalize (dues a3).length = d at *
   obtain ⟨nf,nf1,nf2,nf3⟩:=nfI_ex
   clear hs hv hk dl
   repeat' (first | intro (hb : _ = _) | refine ZV ?_ | refine ZB tm gun_specs_ok ?_ | refine ZH ?_ ?_ | refine ZJ (by conv=>lhs; simp [q1,h0,y2,y3,y4,fr,tk,m1,cu,cs,nf1,nf2,nf3]) ?_ | refine ZA ?_ ?_)
   refine RetB.raw [0] rfl (by conv=>lhs; simp) (by decide) (by rintro j hj; have hj : j < 1:=hj; rcases (show j = 0 by omega) with rfl; exact ⟨rfl,by simp [lk_st]⟩) (by simp [lk_st,grB,Grd.row,renL,AV.ren]) (by simp)
 · have hlt : k < a3.length:=by omega
   obtain ⟨x,hr⟩:=get_lt hlt
   have hm : (a3.map Tok.c)[k]? = some x.c:=by rw [List.getElem?_map,hr]; rfl
   have q1 : (k : Int) < a3.length:=by omega
   have q2 : ¬ a3.length ≤ k:=by omega
   have hw : IntKind.i64.wrap ((k : Int) + 1) = ((k + 1 : Nat) : Int):=w64 (by omega) (by omega)
   have dl : (dues (a3.take k)).length ≤ k:=Nat.le_trans dues_len (by simp; omega)
   have hw2 : IntKind.i64.wrap (((dues (a3.take k)).length : Int) + 1) = (((dues (a3.take k)).length + 1 : Nat) : Int):=w64 (by omega) (by omega)
   have e0 : (dues (a3.take (k + 1))).length = if x.due = true then (dues (a3.take k)).length + 1 else (dues (a3.take k)).length:=by
     rw [take_app hr]
     by_cases hx : x.due = true <;> simp [dues,hx]
   obtain ⟨x1,x2,o,x3,x4,x5⟩:=x
   simp only [Tok.c] at hm
   dsimp only at e0
   rw [← hd0] at e0 hw2
   cases x5
   · rw [if_neg (by decide)] at e0
     repeat' (first | intro (hb : _ = _) | refine ZV ?_ | refine ZB tm gun_specs_ok ?_ | refine ZH ?_ ?_ | refine ZJ (by conv=>lhs; simp [q1,q2,hm,hw,h0]) ?_ | refine ZA ?_ ?_)
     exact ⟨⟨(k + 1,_,d0),by dsimp only; omega,by simp [lk_st,h0,grB,Grd.row],e0.symm⟩,by dsimp only; omega,AS.le_of rfl ⟨rfl,rfl,rfl,rfl,rfl,rfl,trivial⟩ (fun _=>rfl)⟩
   · rw [if_pos rfl] at e0
     repeat' (first | intro (hb : _ = _) | refine ZV ?_ | refine ZB tm gun_specs_ok ?_ | refine ZH ?_ ?_ | refine ZJ (by conv=>lhs; simp [q1,q2,hm,hw,h0,hw2]) ?_ | refine ZA ?_ ?_)
     exact ⟨⟨(k + 1,_,d0 + 1),by dsimp only; omega,by simp [lk_st,h0,grB,Grd.row],e0.symm⟩,by dsimp only; omega,AS.le_of rfl ⟨rfl,rfl,rfl,rfl,rfl,rfl,trivial⟩ (fun _=>rfl)⟩
theorem gun_ok : FnC Try.prog 10 gunS := by
 refine FnC.walkB 10 (fn:=Try.f10) Try.func10 rfl (by kernel_rfl) (fun x b hb=>by simp at hb; rw [hb]; rfl) fun x=>?_
 obtain ⟨⟨a1,a2,a3,es,ls,v0,v1⟩,n,hn,hl,hv,hs⟩:=x
 rcases hn with rfl | rfl | rfl
 · exact gun_w0 a1 a2 a3 es ls v0 v1 hl hv hs
 · exact gun_w1 a1 a2 a3 es ls v0 v1 hl hv hs
 · exact gun_w2 a1 a2 a3 es ls v0 v1 hl hv hs
end
end Go.Abs.Np
