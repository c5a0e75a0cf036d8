/- The reference of networks: links, their order, and valid ones. Conditions: none. -/
import Derived.Test.YtphclapfniepoaaGreatNx2
import Derived.Test.YtphclapfniepoaaGreatAb9
namespace Go.Abs.Nx
open Go Go.Proofs Go.Abs
set_option maxRecDepth 100000
set_option maxHeartbeats 4000000
set_option linter.unusedSimpArgs false
set_option linter.unusedVariables false
section
structure Lk where
 fr : Int
 to : Int
 cut : Bool
 q : List Msg
def lkC (l : Lk) : List AV := [.int .i64 l.fr, .int .i64 l.to, .bool l.cut, .list 45 (l.q.map Msg.v)]
theorem msgv_inj {l m : List Msg} (h : l.map Msg.v = m.map Msg.v) : l = m := map_inj' (fun a b h => by
 obtain ⟨a1,a2,a3,a4,a5,o,a6,a7,a8,a9⟩:=a
 obtain ⟨b1,b2,b3,b4,b5,p,b6,b7,b8,b9⟩:=b
 simp only [Msg.v,List.cons.injEq,AV.int.injEq,true_and] at h
 obtain ⟨rfl,rfl,rfl,rfl,rfl,h⟩:=h
 obtain ⟨h1,h2⟩:=List.append_inj h (by simp)
 simp only [List.cons.injEq,AV.int.injEq,true_and,and_true] at h2
 obtain ⟨rfl,rfl,rfl,rfl⟩:=h2
 rw [Td.ext h1]) h
theorem lkC_inj {s t : Lk} (h : lkC s = lkC t) : s = t := by
 obtain ⟨a,b,c,q⟩:=s
 obtain ⟨a',b',c',q'⟩:=t
 simp only [lkC,List.cons.injEq,AV.int.injEq,AV.bool.injEq,AV.list.injEq,true_and,and_true] at h
 obtain ⟨rfl,rfl,rfl,h⟩:=h
 rw [msgv_inj h]
theorem lks_inj {l m : List Lk} (h : l.map lkC = m.map lkC) : l = m := map_inj' (fun a b h => lkC_inj h) h
def okK (l : Lk) : Prop := l.q.length ≤ 9000
structure Nts where
 ls : List Lk
 bd : ls.length ≤ 9000
 bq : ∀ l ∈ ls,okK l
def Nts.v (d : Nts) : AV := .agg [.list 4 (d.ls.map lkC)]
theorem Nts.v_inj {s t : Nts} (h : s.v = t.v) : s = t := by
 obtain ⟨l,b,c⟩:=s
 obtain ⟨l',b',c'⟩:=t
 simp only [Nts.v,AV.agg.injEq,List.cons.injEq,AV.list.injEq,true_and,and_true] at h
 cases lks_inj h
 rfl
def befB (l : Lk) (f t : Int) : Bool := decide (l.fr < f) || (l.fr == f && decide (l.to < t))
noncomputable def befS : SpecFn := mkS (fun d : {l : Lk // okK l} × Int × Int => [.agg (lkC d.1.1), .int .i64 d.2.1, .int .i64 d.2.2]) fun d => (.bool (befB d.1.1 d.2.1 d.2.2),[])
theorem befS_eq (l : Lk) (h : okK l) (f t : Int) : befS [.agg (lkC l), .int .i64 f, .int .i64 t] [] = some (.bool (befB l f t),[]) :=
 mkS_eq (enc:=fun d : {l : Lk // okK l} × Int × Int=>[AV.agg (lkC d.1.1), .int .i64 d.2.1, .int .i64 d.2.2]) (res:=fun d=>(.bool (befB d.1.1 d.2.1 d.2.2),[])) (fun x y h=>by
   obtain ⟨a,b,c⟩:=x
   obtain ⟨a',b',c'⟩:=y
   simp only [List.cons.injEq,AV.agg.injEq,AV.int.injEq,true_and,and_true] at h
   obtain ⟨h1,rfl,rfl⟩:=h
   rw [lkC_inj h1]) (⟨l,h⟩,f,t)
attribute [local simp] instA slice3A slice3C
attribute [-simp] mkv
attribute [local simp] mkv_hd hdA_cons hdA_ob hdA_ob'
theorem bef_ok : FnC Tryz.prog 43 befS := by
 refine FnC.walk 43 (fn:=Tryz.f43) Tryz.func43 rfl (by kernel_rfl) fun d=>?_
 obtain ⟨⟨⟨a,b,c,q⟩,hl⟩,f,t⟩:=d
 change W _ (Ret _ _ (.bool (decide (a < f) || (a == f && decide (b < t)))) []) _ _ ⟨23,[(0, .agg [.int .i64 a, .int .i64 b, .bool c, .list 45 (q.map Msg.v)]),(1, .int .i64 f),(2, .int .i64 t)],[]⟩
 repeat' (first | intro (hb : _ = _) | refine ZV ?_ | refine ZB tm no_specs ?_ | refine ZH ?_ ?_ | refine ZJ (by conv=>lhs; simp) ?_ | refine ZA ?_ ?_)
 all_goals (first | refine Yd ?_ | refine Ye ?_)
 all_goals (first | rfl | (simp; done) | (simp_all; done) | (simp_all; omega))
theorem nnode_ok : FnC Tryz.prog 32 (boS okN) := by
 refine FnC.walk 32 (fn:=Tryz.f32) Tryz.func32 rfl (by kernel_rfl) fun m=>?_
 change W _ (Ret _ _ (.bool (okN m)) []) _ _ ⟨9,[(0, .int .i64 m)],[]⟩
 repeat' (first | intro (hb : _ = _) | refine ZV ?_ | refine ZB tm no_specs ?_ | refine ZH ?_ ?_ | refine ZJ (by conv=>lhs; simp) ?_ | refine ZA ?_ ?_)
 all_goals (first | refine Yd ?_ | refine Ye ?_)
 all_goals (first | rfl | (simp [okN]; done) | (simp_all [okN]; done) | (simp_all [okN]; omega))
def lkB (l : Lk) : Bool := okN l.fr && (okN l.to && (decide (l.q.length ≤ 4096) && (l.cut || !l.q.isEmpty)))
def goodK (l : List Lk) (j : Nat) : Bool := match l[j]? with
 | none=>true
 | some t=>lkB t && (t.q.all (fun m=>m.fr == t.fr && m.to == t.to) && match j with
   | 0=>true
   | i + 1=>match l[i]? with
     | some s=>befB s t.fr t.to
     | none=>true)
def validK (l : List Lk) : Bool := (List.range l.length).all (goodK l)
theorem validK_no {l : List Lk} {k : Nat} (h : k < l.length) (hg : goodK l k = false) : validK l = false := by
 unfold validK
 rw [List.all_eq_false]
 exact ⟨k,List.mem_range.2 h,by simp [hg]⟩
theorem validK_yes {l : List Lk} (h : ∀ k,k < l.length → goodK l k = true) : validK l = true := by
 unfold validK
 rw [List.all_eq_true]
 exact fun k hk=>h k (List.mem_range.1 hk)
noncomputable def vkS : SpecFn := mkS (fun d : Nts => [d.v]) fun d => (.bool (validK d.ls),[])
theorem vkS_eq (d : Nts) : vkS [d.v] [] = some (.bool (validK d.ls),[]) :=
 mkS_eq (enc:=fun d : Nts=>[d.v]) (fun x y h=>by
   simp only [List.cons.injEq,and_true] at h
   cases Nts.v_inj h
   rfl) d
noncomputable def rvk_specs21 : NL Spec := [(32,⟨1,boS okN⟩),(43,⟨1,befS⟩)]
theorem rvk_specs21_ok : ∀ p ∈ rvk_specs21,FnC Tryz.prog p.1 p.2.fn := by
 simp only [rvk_specs21,List.mem_cons,List.not_mem_nil,or_false]
 rintro p (rfl | rfl)
 · exact nnode_ok
 · exact bef_ok
attribute [local simp] rvk_specs21
theorem rvk21_ok : FnC Tryz.prog 22 vkS := by
 refine FnC.walk 22 (fn:=Tryz.f22) Tryz.func22 rfl (by kernel_rfl) fun d=>?_
 obtain ⟨l,hl,he⟩:=d
 change W _ (Ret _ _ (.bool (validK l)) []) _ _ ⟨79,[(0, .agg [.list 4 (l.map lkC)])],[]⟩
 have cap : l.length ≤ 9223372036854775807:=by omega
 repeat' (first | intro (hb : _ = _) | refine ZV ?_ | refine ZB tm rvk_specs21_ok ?_ | refine ZH ?_ ?_ | refine ZJ (by conv=>lhs; simp [cap]) ?_ | refine ZA ?_ ?_)
 refine W.loop rfl (ι:={ q : Nat × NL ABlk // q.1 ≤ l.length ∧ (∀ j,j < q.1 → goodK l j = true) ∧ lk q.2 32 = some { gen:=1,kind:=2,elem:=24,size:=1,inl:=false,rows:=[[.list 4 (l.map lkC)]] } })
   (fun q=>⟨79,[(1, .ptr 32 1 0 0),(8, .list 4 (l.map lkC)),(9, .int .i64 l.length),(10, .int .i64 (q.1.1 : Nat))],q.1.2⟩) (fun q=>l.length - q.1.1)
   ⟨(0,_),by simp,fun j hj=>absurd hj (by simp),rfl⟩ (AS.le_of rfl ⟨rfl,rfl,rfl,rfl,trivial⟩ (fun _=>rfl)) ?_
 rintro ⟨⟨k,h⟩,hk,hg,h1⟩
 dsimp only at hk hg h1 ⊢
 by_cases hk2 : k = l.length
 · subst hk2
   rw [validK_yes hg]
   repeat' (first | intro (hb : _ = _) | refine ZV ?_ | refine ZB tm rvk_specs21_ok ?_ | refine ZH ?_ ?_ | refine ZJ (by conv=>lhs; simp) ?_ | refine ZA ?_ ?_)
   all_goals (first | refine Yd ?_ | refine Ye ?_)
   all_goals (first | rfl | (simp; done) | (simp_all; done) | (simp_all; omega))
 · have hlt : k < l.length:=by omega
   obtain ⟨⟨a,b,c,q⟩,hr⟩:=get_lt hlt
   have hm : (l.map lkC)[k]? = some [.int .i64 a, .int .i64 b, .bool c, .list 45 (q.map Msg.v)]:=by rw [List.getElem?_map,hr]; rfl
   have q1 : (k : Int) < l.length:=by omega
   have q2 : ¬ l.length ≤ k:=by omega
   have hw : IntKind.i64.wrap ((k : Int) + 1) = ((k + 1 : Nat) : Int):=w64 (by omega) (by omega)
   have hqb : q.length ≤ 9000:=he _ (List.mem_of_getElem? hr)
   have cq : q.length ≤ 9223372036854775807:=by omega
   have n1:=boS_eq okN a
   have n2:=boS_eq okN b
   cases hb : lkB ⟨a,b,c,q⟩ with
   | false =>
     rw [validK_no hlt (by simp [goodK,hr,hb])]
     clear hg hr he hlt hk2
     unfold lkB at hb
     dsimp only at hb
     generalize okN a = x1 at *
     generalize okN b = x2 at *
     cases x1 with
     | false =>
       clear hb
       repeat' (first | intro (hb : _ = _) | refine ZV ?_ | refine ZB tm rvk_specs21_ok ?_ | refine ZH ?_ ?_ | refine ZJ (by conv=>lhs; simp [q1,q2,hm,n1,n2,cq]) ?_ | refine ZA ?_ ?_)
       all_goals (first | refine Yd ?_ | refine Ye ?_)
       all_goals (first | rfl | (simp; done) | (simp_all; done) | (simp_all; omega))
     | true =>
       cases x2 with
       | false =>
         clear hb
         repeat' (first | intro (hb : _ = _) | refine ZV ?_ | refine ZB tm rvk_specs21_ok ?_ | refine ZH ?_ ?_ | refine ZJ (by conv=>lhs; simp [q1,q2,hm,n1,n2,cq]) ?_ | refine ZA ?_ ?_)
         all_goals (first | refine Yd ?_ | refine Ye ?_)
         all_goals (first | rfl | (simp; done) | (simp_all; done) | (simp_all; omega))
       | true =>
         by_cases h3 : q.length ≤ 4096
         · have c3 : ¬ (4096 : Int) < q.length:=by omega
           have hc : c = false ∧ q = []:=by simpa [h3] using hb
           obtain ⟨rfl,rfl⟩:=hc
           clear hb hqb
           repeat' (first | intro (hb : _ = _) | refine ZV ?_ | refine ZB tm rvk_specs21_ok ?_ | refine ZH ?_ ?_ | refine ZJ (by conv=>lhs; simp [q1,q2,hm,n1,n2,cq,c3]) ?_ | refine ZA ?_ ?_)
           all_goals (first | refine Yd ?_ | refine Ye ?_)
           all_goals (first | rfl | (simp; done) | (simp_all; done) | (simp_all; omega))
         · have c3 : (4096 : Int) < q.length:=by omega
           clear hb
           repeat' (first | intro (hb : _ = _) | refine ZV ?_ | refine ZB tm rvk_specs21_ok ?_ | refine ZH ?_ ?_ | refine ZJ (by conv=>lhs; simp [q1,q2,hm,n1,n2,cq,c3]) ?_ | refine ZA ?_ ?_)
           all_goals (first | refine Yd ?_ | refine Ye ?_)
           all_goals (first | rfl | (simp; done) | (simp_all; done) | (simp_all; omega))
   | true =>
     have hb':=hb
     unfold lkB at hb
     simp only [Bool.and_eq_true,decide_eq_true_eq,Bool.or_eq_true] at hb
     obtain ⟨o1,o2,h3,h4⟩:=hb
     rw [o1] at n1
     rw [o2] at n2
     have c3 : ¬ (4096 : Int) < q.length:=by omega
     have hbad : ∀ m ∈ q, ¬ (m.fr = a ∧ m.to = b) → goodK l k = false:=fun m hmq hne=>by
       have : q.all (fun m=>m.fr == a && m.to == b) = false:=by
         rw [List.all_eq_false]
         exact ⟨m,hmq,by simpa using hne⟩
       unfold goodK
       simp only [hr,this,Bool.false_and,Bool.and_false]
     have hall0 : (∀ m ∈ q,m.fr = a ∧ m.to = b) → q.all (fun m=>m.fr == a && m.to == b) = true:=fun h=>by
       rw [List.all_eq_true]
       exact fun m hm=>by simpa using h m hm
     have hc4 : (c = true ∧ (q.length == 0) = (q.length == 0)) ∨ (c = false ∧ ((q.length : Int) == 0) = false):=by
       cases c with
       | true=>exact .inl ⟨rfl,rfl⟩
       | false =>
         right
         refine ⟨rfl, ?_⟩
         have : q ≠ []:=by rintro rfl; simp at h4
         have:=List.length_pos_iff.2 this
         simp; omega
     have hx : k = 0 ∨ (∃ j s,k = j + 1 ∧ l[j]? = some s ∧ befB s a b = true) ∨ (∃ j s,k = j + 1 ∧ l[j]? = some s ∧ befB s a b = false):=by
       cases k with
       | zero=>exact .inl rfl
       | succ j =>
         right
         obtain ⟨s,hs⟩:=get_lt (l:=l) (i:=j) (by omega)
         cases hbb : befB s a b
         · exact .inr ⟨j,s,rfl,hs,hbb⟩
         · exact .inl ⟨j,s,rfl,hs,hbb⟩
     rcases hx with hk0 | ⟨j0,s,hkj,hs,hbb⟩ | ⟨j0,s,hkj,hs,hbb⟩
     · have q5 : ¬ (0 : Int) < (k : Int):=by omega
       have q6 : ¬ 0 < k:=by omega
       have hgood : (∀ m ∈ q,m.fr = a ∧ m.to = b) → goodK l k = true:=fun h=>by
         have:=hall0 h
         subst hk0
         unfold goodK
         simp only [hr,hb',this,Bool.true_and]
       obtain ⟨G,hG⟩ : ∃ G,((lk h 80).getD { }).gen + 1 = G:=⟨_,rfl⟩
       clear hall0 hk0
       rcases hc4 with ⟨rfl, -⟩ | ⟨rfl,e0⟩
       · repeat' (first | intro (hb : _ = _) | refine ZV ?_ | refine ZB (id:=2) tm rvk_specs21_ok ?_ | refine ZB (id:=3) tm rvk_specs21_ok ?_ | refine ZB (id:=4) tm rvk_specs21_ok ?_ | refine ZB (id:=5) tm rvk_specs21_ok ?_ | refine ZB (id:=6) tm rvk_specs21_ok ?_ | refine ZB (id:=7) tm rvk_specs21_ok ?_ | refine ZB (id:=8) tm rvk_specs21_ok ?_ | refine ZH ?_ ?_ | refine ZJ (by conv=>lhs; simp [q1,q2,hm,n1,n2,cq,c3,q5,q6,hG]) ?_ | refine ZA ?_ ?_)
         refine W.loop rfl (ι:={ x : Nat × NL ABlk // x.1 ≤ q.length ∧ (∀ m ∈ q.take x.1,m.fr = a ∧ m.to = b) ∧ lk x.2 32 = some { gen:=1,kind:=2,elem:=24,size:=1,inl:=false,rows:=[[.list 4 (l.map lkC)]] } ∧ lk x.2 80 = some { gen:=G,kind:=2,elem:=70,size:=4,inl:=false,rows:=[[.int .i64 a, .int .i64 b, .bool true, .list 45 (q.map Msg.v)]] } })
           (fun x=>⟨79,[(1, .ptr 32 1 0 0),(4, .ptr 80 G 0 0),(8, .list 4 (l.map lkC)),(9, .int .i64 l.length),(10, .int .i64 (k : Nat)),(59, .list 45 (q.map Msg.v)),(60, .int .i64 q.length),(61, .int .i64 (x.1.1 : Nat))],x.1.2⟩) (fun x=>q.length - x.1.1)
           ⟨(0,_),by simp,by simp,by simp [lk_st,h1],by simp [lk_st]⟩ (AS.le_of rfl ⟨rfl,rfl,rfl,rfl,rfl,rfl,rfl,rfl,trivial⟩ (fun _=>rfl)) ?_
         clear h1 hG h hm
         rintro ⟨⟨j,h⟩,hj,hall,h1,h4⟩
         dsimp only at hj hall h1 h4 ⊢
         by_cases hj2 : j = q.length
         · subst hj2
           rw [List.take_length] at hall
           have hgk : goodK l k = true:=hgood hall
           have hgn : ∀ j,j < k + 1 → goodK l j = true:=fun j hj=>by
             by_cases e : j = k
             · subst e; exact hgk
             · exact hg j (by omega)
           repeat' (first | intro (hb : _ = _) | refine ZV ?_ | refine ZB tm rvk_specs21_ok ?_ | refine ZH ?_ ?_ | refine ZJ (by conv=>lhs; simp [hw]) ?_ | refine ZA ?_ ?_)
           exact ⟨⟨(k + 1,_),hlt,hgn,by simp [lk_st,h1]⟩,by dsimp only; omega,AS.le_of rfl ⟨rfl,rfl,rfl,rfl,trivial⟩ (fun _=>rfl)⟩
         · have hjl : j < q.length:=by omega
           obtain ⟨m,hrm⟩:=get_lt hjl
           have hmm : (q.map Msg.v)[j]? = some m.v:=by rw [List.getElem?_map,hrm]; rfl
           have p1 : (j : Int) < q.length:=by omega
           have p2 : ¬ q.length ≤ j:=by omega
           have pw : IntKind.i64.wrap ((j : Int) + 1) = ((j + 1 : Nat) : Int):=w64 (by omega) (by omega)
           have hmem:=List.mem_of_getElem? hrm
           by_cases h5 : m.fr = a ∧ m.to = b
           · have hall2 : ∀ m ∈ q.take (j + 1),m.fr = a ∧ m.to = b:=fun y hy=>by
               rw [List.take_add_one,hrm] at hy
               simp only [Option.toList_some,List.mem_append,List.mem_singleton] at hy
               rcases hy with hy | rfl
               · exact hall y hy
               · exact h5
             obtain ⟨h5a,h5b⟩:=h5
             have e1 : (m.fr != a) = false:=by simp [h5a]
             have e2 : (m.to != b) = false:=by simp [h5b]
             obtain ⟨m1,m2,m3,m4,m5,o,m6,m7,m8,m9⟩:=m
             simp only [Msg.v] at hmm
             dsimp only at e1 e2
             clear h5a h5b
             repeat' (first | intro (hb : _ = _) | refine ZV ?_ | refine ZB tm rvk_specs21_ok ?_ | refine ZH ?_ ?_ | refine ZJ (by conv=>lhs; simp [p1,p2,hmm,h4,e1,e2,pw]) ?_ | refine ZA ?_ ?_)
             exact ⟨⟨(j + 1,_),hjl,hall2,by simp [lk_st,h1],by simp [lk_st,h4]⟩,by dsimp only; omega,AS.le_of rfl ⟨rfl,rfl,rfl,rfl,rfl,rfl,rfl,rfl,trivial⟩ (fun _=>rfl)⟩
           · rw [validK_no hlt (hbad m hmem h5)]
             have e3 : (m.fr != a || m.to != b) = true:=by
               by_cases h6 : m.fr = a
               · have : m.to ≠ b:=fun h7=>h5 ⟨h6,h7⟩
                 simp [this]
               · simp [h6]
             obtain ⟨m1,m2,m3,m4,m5,o,m6,m7,m8,m9⟩:=m
             simp only [Msg.v] at hmm
             dsimp only at e3
             by_cases h6 : (m1 != a) = true
             · clear e3 h5
               repeat' (first | intro (hb : _ = _) | refine ZV ?_ | refine ZB tm rvk_specs21_ok ?_ | refine ZH ?_ ?_ | refine ZJ (by conv=>lhs; simp [p1,p2,hmm,h4,h6]) ?_ | refine ZA ?_ ?_)
               all_goals (first | refine Yd ?_ | refine Ye ?_)
               all_goals (first | rfl | (simp; done) | (simp_all; done) | (simp_all; omega))
             · have e1 : (m1 != a) = false:=by simpa using h6
               have e2 : (m2 != b) = true:=by rw [e1] at e3; simpa using e3
               clear e3 h5 h6
               repeat' (first | intro (hb : _ = _) | refine ZV ?_ | refine ZB tm rvk_specs21_ok ?_ | refine ZH ?_ ?_ | refine ZJ (by conv=>lhs; simp [p1,p2,hmm,h4,e1,e2]) ?_ | refine ZA ?_ ?_)
               all_goals (first | refine Yd ?_ | refine Ye ?_)
               all_goals (first | rfl | (simp; done) | (simp_all; done) | (simp_all; omega))
       · repeat' (first | intro (hb : _ = _) | refine ZV ?_ | refine ZB (id:=2) tm rvk_specs21_ok ?_ | refine ZB (id:=3) tm rvk_specs21_ok ?_ | refine ZB (id:=4) tm rvk_specs21_ok ?_ | refine ZB (id:=5) tm rvk_specs21_ok ?_ | refine ZB (id:=6) tm rvk_specs21_ok ?_ | refine ZB (id:=7) tm rvk_specs21_ok ?_ | refine ZB (id:=8) tm rvk_specs21_ok ?_ | refine ZH ?_ ?_ | refine ZJ (by conv=>lhs; simp [q1,q2,hm,n1,n2,cq,c3,q5,q6,e0,hG]) ?_ | refine ZA ?_ ?_)
         refine W.loop rfl (ι:={ x : Nat × NL ABlk // x.1 ≤ q.length ∧ (∀ m ∈ q.take x.1,m.fr = a ∧ m.to = b) ∧ lk x.2 32 = some { gen:=1,kind:=2,elem:=24,size:=1,inl:=false,rows:=[[.list 4 (l.map lkC)]] } ∧ lk x.2 80 = some { gen:=G,kind:=2,elem:=70,size:=4,inl:=false,rows:=[[.int .i64 a, .int .i64 b, .bool false, .list 45 (q.map Msg.v)]] } })
           (fun x=>⟨79,[(1, .ptr 32 1 0 0),(4, .ptr 80 G 0 0),(8, .list 4 (l.map lkC)),(9, .int .i64 l.length),(10, .int .i64 (k : Nat)),(59, .list 45 (q.map Msg.v)),(60, .int .i64 q.length),(61, .int .i64 (x.1.1 : Nat))],x.1.2⟩) (fun x=>q.length - x.1.1)
           ⟨(0,_),by simp,by simp,by simp [lk_st,h1],by simp [lk_st]⟩ (AS.le_of rfl ⟨rfl,rfl,rfl,rfl,rfl,rfl,rfl,rfl,trivial⟩ (fun _=>rfl)) ?_
         clear h1 hG h hm
         rintro ⟨⟨j,h⟩,hj,hall,h1,h4⟩
         dsimp only at hj hall h1 h4 ⊢
         by_cases hj2 : j = q.length
         · subst hj2
           rw [List.take_length] at hall
           have hgk : goodK l k = true:=hgood hall
           have hgn : ∀ j,j < k + 1 → goodK l j = true:=fun j hj=>by
             by_cases e : j = k
             · subst e; exact hgk
             · exact hg j (by omega)
           repeat' (first | intro (hb : _ = _) | refine ZV ?_ | refine ZB tm rvk_specs21_ok ?_ | refine ZH ?_ ?_ | refine ZJ (by conv=>lhs; simp [hw]) ?_ | refine ZA ?_ ?_)
           exact ⟨⟨(k + 1,_),hlt,hgn,by simp [lk_st,h1]⟩,by dsimp only; omega,AS.le_of rfl ⟨rfl,rfl,rfl,rfl,trivial⟩ (fun _=>rfl)⟩
         · have hjl : j < q.length:=by omega
           obtain ⟨m,hrm⟩:=get_lt hjl
           have hmm : (q.map Msg.v)[j]? = some m.v:=by rw [List.getElem?_map,hrm]; rfl
           have p1 : (j : Int) < q.length:=by omega
           have p2 : ¬ q.length ≤ j:=by omega
           have pw : IntKind.i64.wrap ((j : Int) + 1) = ((j + 1 : Nat) : Int):=w64 (by omega) (by omega)
           have hmem:=List.mem_of_getElem? hrm
           by_cases h5 : m.fr = a ∧ m.to = b
           · have hall2 : ∀ m ∈ q.take (j + 1),m.fr = a ∧ m.to = b:=fun y hy=>by
               rw [List.take_add_one,hrm] at hy
               simp only [Option.toList_some,List.mem_append,List.mem_singleton] at hy
               rcases hy with hy | rfl
               · exact hall y hy
               · exact h5
             obtain ⟨h5a,h5b⟩:=h5
             have e1 : (m.fr != a) = false:=by simp [h5a]
             have e2 : (m.to != b) = false:=by simp [h5b]
             obtain ⟨m1,m2,m3,m4,m5,o,m6,m7,m8,m9⟩:=m
             simp only [Msg.v] at hmm
             dsimp only at e1 e2
             clear h5a h5b
             repeat' (first | intro (hb : _ = _) | refine ZV ?_ | refine ZB tm rvk_specs21_ok ?_ | refine ZH ?_ ?_ | refine ZJ (by conv=>lhs; simp [p1,p2,hmm,h4,e1,e2,pw]) ?_ | refine ZA ?_ ?_)
             exact ⟨⟨(j + 1,_),hjl,hall2,by simp [lk_st,h1],by simp [lk_st,h4]⟩,by dsimp only; omega,AS.le_of rfl ⟨rfl,rfl,rfl,rfl,rfl,rfl,rfl,rfl,trivial⟩ (fun _=>rfl)⟩
           · rw [validK_no hlt (hbad m hmem h5)]
             have e3 : (m.fr != a || m.to != b) = true:=by
               by_cases h6 : m.fr = a
               · have : m.to ≠ b:=fun h7=>h5 ⟨h6,h7⟩
                 simp [this]
               · simp [h6]
             obtain ⟨m1,m2,m3,m4,m5,o,m6,m7,m8,m9⟩:=m
             simp only [Msg.v] at hmm
             dsimp only at e3
             by_cases h6 : (m1 != a) = true
             · clear e3 h5
               repeat' (first | intro (hb : _ = _) | refine ZV ?_ | refine ZB tm rvk_specs21_ok ?_ | refine ZH ?_ ?_ | refine ZJ (by conv=>lhs; simp [p1,p2,hmm,h4,h6]) ?_ | refine ZA ?_ ?_)
               all_goals (first | refine Yd ?_ | refine Ye ?_)
               all_goals (first | rfl | (simp; done) | (simp_all; done) | (simp_all; omega))
             · have e1 : (m1 != a) = false:=by simpa using h6
               have e2 : (m2 != b) = true:=by rw [e1] at e3; simpa using e3
               clear e3 h5 h6
               repeat' (first | intro (hb : _ = _) | refine ZV ?_ | refine ZB tm rvk_specs21_ok ?_ | refine ZH ?_ ?_ | refine ZJ (by conv=>lhs; simp [p1,p2,hmm,h4,e1,e2]) ?_ | refine ZA ?_ ?_)
               all_goals (first | refine Yd ?_ | refine Ye ?_)
               all_goals (first | rfl | (simp; done) | (simp_all; done) | (simp_all; omega))
     · have hms : (l.map lkC)[j0]? = some (lkC s):=by rw [List.getElem?_map,hs]; rfl
       have q3 : ¬ l.length ≤ j0:=by omega
       have q4 : (0 : Int) < (k : Int):=by omega
       have q4' : 0 < k:=by omega
       have hd : IntKind.i64.wrap ((k : Int) - 1) = (j0 : Int):=by rw [w64 (by omega) (by omega)]; omega
       have q1' : (j0 : Int) < l.length:=by omega
       have cb:=befS_eq s (he s (List.mem_of_getElem? hs)) a b
       rw [hbb] at cb
       have hgood : (∀ m ∈ q,m.fr = a ∧ m.to = b) → goodK l k = true:=fun h=>by
         have:=hall0 h
         subst hkj
         unfold goodK
         simp only [hr,hb',this,hs,hbb,Bool.true_and]
       obtain ⟨s1,s2,s3,s4⟩:=s
       simp only [lkC] at hms cb
       obtain ⟨G,hG⟩ : ∃ G,((lk h 80).getD { }).gen + 1 = G:=⟨_,rfl⟩
       clear hall0
       rcases hc4 with ⟨rfl, -⟩ | ⟨rfl,e0⟩
       · repeat' (first | intro (hb : _ = _) | refine ZV ?_ | refine ZB (id:=2) tm rvk_specs21_ok ?_ | refine ZB (id:=3) tm rvk_specs21_ok ?_ | refine ZB (id:=4) tm rvk_specs21_ok ?_ | refine ZB (id:=5) tm rvk_specs21_ok ?_ | refine ZB (id:=6) tm rvk_specs21_ok ?_ | refine ZB (id:=7) tm rvk_specs21_ok ?_ | refine ZB (id:=8) tm rvk_specs21_ok ?_ | refine ZH ?_ ?_ | refine ZJ (by conv=>lhs; simp [q1,q1',q2,q3,q4,q4',hm,hms,n1,n2,cq,c3,hd,cb,h1,hG]) ?_ | refine ZA ?_ ?_)
         refine W.loop rfl (ι:={ x : Nat × NL ABlk // x.1 ≤ q.length ∧ (∀ m ∈ q.take x.1,m.fr = a ∧ m.to = b) ∧ lk x.2 32 = some { gen:=1,kind:=2,elem:=24,size:=1,inl:=false,rows:=[[.list 4 (l.map lkC)]] } ∧ lk x.2 80 = some { gen:=G,kind:=2,elem:=70,size:=4,inl:=false,rows:=[[.int .i64 a, .int .i64 b, .bool true, .list 45 (q.map Msg.v)]] } })
           (fun x=>⟨79,[(1, .ptr 32 1 0 0),(4, .ptr 80 G 0 0),(8, .list 4 (l.map lkC)),(9, .int .i64 l.length),(10, .int .i64 (k : Nat)),(59, .list 45 (q.map Msg.v)),(60, .int .i64 q.length),(61, .int .i64 (x.1.1 : Nat))],x.1.2⟩) (fun x=>q.length - x.1.1)
           ⟨(0,_),by simp,by simp,by simp [lk_st,h1],by simp [lk_st]⟩ (AS.le_of rfl ⟨rfl,rfl,rfl,rfl,rfl,rfl,rfl,rfl,trivial⟩ (fun _=>rfl)) ?_
         clear h1 hG h hm
         rintro ⟨⟨j,h⟩,hj,hall,h1,h4⟩
         dsimp only at hj hall h1 h4 ⊢
         by_cases hj2 : j = q.length
         · subst hj2
           rw [List.take_length] at hall
           have hgk : goodK l k = true:=hgood hall
           have hgn : ∀ j,j < k + 1 → goodK l j = true:=fun j hj=>by
             by_cases e : j = k
             · subst e; exact hgk
             · exact hg j (by omega)
           repeat' (first | intro (hb : _ = _) | refine ZV ?_ | refine ZB tm rvk_specs21_ok ?_ | refine ZH ?_ ?_ | refine ZJ (by conv=>lhs; simp [hw]) ?_ | refine ZA ?_ ?_)
           exact ⟨⟨(k + 1,_),hlt,hgn,by simp [lk_st,h1]⟩,by dsimp only; omega,AS.le_of rfl ⟨rfl,rfl,rfl,rfl,trivial⟩ (fun _=>rfl)⟩
         · have hjl : j < q.length:=by omega
           obtain ⟨m,hrm⟩:=get_lt hjl
           have hmm : (q.map Msg.v)[j]? = some m.v:=by rw [List.getElem?_map,hrm]; rfl
           have p1 : (j : Int) < q.length:=by omega
           have p2 : ¬ q.length ≤ j:=by omega
           have pw : IntKind.i64.wrap ((j : Int) + 1) = ((j + 1 : Nat) : Int):=w64 (by omega) (by omega)
           have hmem:=List.mem_of_getElem? hrm
           by_cases h5 : m.fr = a ∧ m.to = b
           · have hall2 : ∀ m ∈ q.take (j + 1),m.fr = a ∧ m.to = b:=fun y hy=>by
               rw [List.take_add_one,hrm] at hy
               simp only [Option.toList_some,List.mem_append,List.mem_singleton] at hy
               rcases hy with hy | rfl
               · exact hall y hy
               · exact h5
             obtain ⟨h5a,h5b⟩:=h5
             have e1 : (m.fr != a) = false:=by simp [h5a]
             have e2 : (m.to != b) = false:=by simp [h5b]
             obtain ⟨m1,m2,m3,m4,m5,o,m6,m7,m8,m9⟩:=m
             simp only [Msg.v] at hmm
             dsimp only at e1 e2
             clear h5a h5b
             repeat' (first | intro (hb : _ = _) | refine ZV ?_ | refine ZB tm rvk_specs21_ok ?_ | refine ZH ?_ ?_ | refine ZJ (by conv=>lhs; simp [p1,p2,hmm,h4,e1,e2,pw]) ?_ | refine ZA ?_ ?_)
             exact ⟨⟨(j + 1,_),hjl,hall2,by simp [lk_st,h1],by simp [lk_st,h4]⟩,by dsimp only; omega,AS.le_of rfl ⟨rfl,rfl,rfl,rfl,rfl,rfl,rfl,rfl,trivial⟩ (fun _=>rfl)⟩
           · rw [validK_no hlt (hbad m hmem h5)]
             have e3 : (m.fr != a || m.to != b) = true:=by
               by_cases h6 : m.fr = a
               · have : m.to ≠ b:=fun h7=>h5 ⟨h6,h7⟩
                 simp [this]
               · simp [h6]
             obtain ⟨m1,m2,m3,m4,m5,o,m6,m7,m8,m9⟩:=m
             simp only [Msg.v] at hmm
             dsimp only at e3
             by_cases h6 : (m1 != a) = true
             · clear e3 h5
               repeat' (first | intro (hb : _ = _) | refine ZV ?_ | refine ZB tm rvk_specs21_ok ?_ | refine ZH ?_ ?_ | refine ZJ (by conv=>lhs; simp [p1,p2,hmm,h4,h6]) ?_ | refine ZA ?_ ?_)
               all_goals (first | refine Yd ?_ | refine Ye ?_)
               all_goals (first | rfl | (simp; done) | (simp_all; done) | (simp_all; omega))
             · have e1 : (m1 != a) = false:=by simpa using h6
               have e2 : (m2 != b) = true:=by rw [e1] at e3; simpa using e3
               clear e3 h5 h6
               repeat' (first | intro (hb : _ = _) | refine ZV ?_ | refine ZB tm rvk_specs21_ok ?_ | refine ZH ?_ ?_ | refine ZJ (by conv=>lhs; simp [p1,p2,hmm,h4,e1,e2]) ?_ | refine ZA ?_ ?_)
               all_goals (first | refine Yd ?_ | refine Ye ?_)
               all_goals (first | rfl | (simp; done) | (simp_all; done) | (simp_all; omega))
       · repeat' (first | intro (hb : _ = _) | refine ZV ?_ | refine ZB (id:=2) tm rvk_specs21_ok ?_ | refine ZB (id:=3) tm rvk_specs21_ok ?_ | refine ZB (id:=4) tm rvk_specs21_ok ?_ | refine ZB (id:=5) tm rvk_specs21_ok ?_ | refine ZB (id:=6) tm rvk_specs21_ok ?_ | refine ZB (id:=7) tm rvk_specs21_ok ?_ | refine ZB (id:=8) tm rvk_specs21_ok ?_ | refine ZH ?_ ?_ | refine ZJ (by conv=>lhs; simp [q1,q1',q2,q3,q4,q4',hm,hms,n1,n2,cq,c3,hd,cb,h1,e0,hG]) ?_ | refine ZA ?_ ?_)
         refine W.loop rfl (ι:={ x : Nat × NL ABlk // x.1 ≤ q.length ∧ (∀ m ∈ q.take x.1,m.fr = a ∧ m.to = b) ∧ lk x.2 32 = some { gen:=1,kind:=2,elem:=24,size:=1,inl:=false,rows:=[[.list 4 (l.map lkC)]] } ∧ lk x.2 80 = some { gen:=G,kind:=2,elem:=70,size:=4,inl:=false,rows:=[[.int .i64 a, .int .i64 b, .bool false, .list 45 (q.map Msg.v)]] } })
           (fun x=>⟨79,[(1, .ptr 32 1 0 0),(4, .ptr 80 G 0 0),(8, .list 4 (l.map lkC)),(9, .int .i64 l.length),(10, .int .i64 (k : Nat)),(59, .list 45 (q.map Msg.v)),(60, .int .i64 q.length),(61, .int .i64 (x.1.1 : Nat))],x.1.2⟩) (fun x=>q.length - x.1.1)
           ⟨(0,_),by simp,by simp,by simp [lk_st,h1],by simp [lk_st]⟩ (AS.le_of rfl ⟨rfl,rfl,rfl,rfl,rfl,rfl,rfl,rfl,trivial⟩ (fun _=>rfl)) ?_
         clear h1 hG h hm
         rintro ⟨⟨j,h⟩,hj,hall,h1,h4⟩
         dsimp only at hj hall h1 h4 ⊢
         by_cases hj2 : j = q.length
         · subst hj2
           rw [List.take_length] at hall
           have hgk : goodK l k = true:=hgood hall
           have hgn : ∀ j,j < k + 1 → goodK l j = true:=fun j hj=>by
             by_cases e : j = k
             · subst e; exact hgk
             · exact hg j (by omega)
           repeat' (first | intro (hb : _ = _) | refine ZV ?_ | refine ZB tm rvk_specs21_ok ?_ | refine ZH ?_ ?_ | refine ZJ (by conv=>lhs; simp [hw]) ?_ | refine ZA ?_ ?_)
           exact ⟨⟨(k + 1,_),hlt,hgn,by simp [lk_st,h1]⟩,by dsimp only; omega,AS.le_of rfl ⟨rfl,rfl,rfl,rfl,trivial⟩ (fun _=>rfl)⟩
         · have hjl : j < q.length:=by omega
           obtain ⟨m,hrm⟩:=get_lt hjl
           have hmm : (q.map Msg.v)[j]? = some m.v:=by rw [List.getElem?_map,hrm]; rfl
           have p1 : (j : Int) < q.length:=by omega
           have p2 : ¬ q.length ≤ j:=by omega
           have pw : IntKind.i64.wrap ((j : Int) + 1) = ((j + 1 : Nat) : Int):=w64 (by omega) (by omega)
           have hmem:=List.mem_of_getElem? hrm
           by_cases h5 : m.fr = a ∧ m.to = b
           · have hall2 : ∀ m ∈ q.take (j + 1),m.fr = a ∧ m.to = b:=fun y hy=>by
               rw [List.take_add_one,hrm] at hy
               simp only [Option.toList_some,List.mem_append,List.mem_singleton] at hy
               rcases hy with hy | rfl
               · exact hall y hy
               · exact h5
             obtain ⟨h5a,h5b⟩:=h5
             have e1 : (m.fr != a) = false:=by simp [h5a]
             have e2 : (m.to != b) = false:=by simp [h5b]
             obtain ⟨m1,m2,m3,m4,m5,o,m6,m7,m8,m9⟩:=m
             simp only [Msg.v] at hmm
             dsimp only at e1 e2
             clear h5a h5b
             repeat' (first | intro (hb : _ = _) | refine ZV ?_ | refine ZB tm rvk_specs21_ok ?_ | refine ZH ?_ ?_ | refine ZJ (by conv=>lhs; simp [p1,p2,hmm,h4,e1,e2,pw]) ?_ | refine ZA ?_ ?_)
             exact ⟨⟨(j + 1,_),hjl,hall2,by simp [lk_st,h1],by simp [lk_st,h4]⟩,by dsimp only; omega,AS.le_of rfl ⟨rfl,rfl,rfl,rfl,rfl,rfl,rfl,rfl,trivial⟩ (fun _=>rfl)⟩
           · rw [validK_no hlt (hbad m hmem h5)]
             have e3 : (m.fr != a || m.to != b) = true:=by
               by_cases h6 : m.fr = a
               · have : m.to ≠ b:=fun h7=>h5 ⟨h6,h7⟩
                 simp [this]
               · simp [h6]
             obtain ⟨m1,m2,m3,m4,m5,o,m6,m7,m8,m9⟩:=m
             simp only [Msg.v] at hmm
             dsimp only at e3
             by_cases h6 : (m1 != a) = true
             · clear e3 h5
               repeat' (first | intro (hb : _ = _) | refine ZV ?_ | refine ZB tm rvk_specs21_ok ?_ | refine ZH ?_ ?_ | refine ZJ (by conv=>lhs; simp [p1,p2,hmm,h4,h6]) ?_ | refine ZA ?_ ?_)
               all_goals (first | refine Yd ?_ | refine Ye ?_)
               all_goals (first | rfl | (simp; done) | (simp_all; done) | (simp_all; omega))
             · have e1 : (m1 != a) = false:=by simpa using h6
               have e2 : (m2 != b) = true:=by rw [e1] at e3; simpa using e3
               clear e3 h5 h6
               repeat' (first | intro (hb : _ = _) | refine ZV ?_ | refine ZB tm rvk_specs21_ok ?_ | refine ZH ?_ ?_ | refine ZJ (by conv=>lhs; simp [p1,p2,hmm,h4,e1,e2]) ?_ | refine ZA ?_ ?_)
               all_goals (first | refine Yd ?_ | refine Ye ?_)
               all_goals (first | rfl | (simp; done) | (simp_all; done) | (simp_all; omega))
     · have hms : (l.map lkC)[j0]? = some (lkC s):=by rw [List.getElem?_map,hs]; rfl
       have q3 : ¬ l.length ≤ j0:=by omega
       have q4 : (0 : Int) < (k : Int):=by omega
       have q4' : 0 < k:=by omega
       have hd : IntKind.i64.wrap ((k : Int) - 1) = (j0 : Int):=by rw [w64 (by omega) (by omega)]; omega
       have q1' : (j0 : Int) < l.length:=by omega
       have cb:=befS_eq s (he s (List.mem_of_getElem? hs)) a b
       rw [hbb] at cb
       rw [validK_no hlt (by subst hkj; unfold goodK; simp only [hr,hs,hbb,Bool.and_false])]
       obtain ⟨s1,s2,s3,s4⟩:=s
       simp only [lkC] at hms cb
       rcases hc4 with ⟨rfl, -⟩ | ⟨rfl,e0⟩
       · repeat' (first | intro (hb : _ = _) | refine ZV ?_ | refine ZB tm rvk_specs21_ok ?_ | refine ZH ?_ ?_ | refine ZJ (by conv=>lhs; simp [q1,q1',q2,q3,q4,q4',hm,hms,n1,n2,cq,c3,hd,cb,h1]) ?_ | refine ZA ?_ ?_)
         all_goals (first | refine Yd ?_ | refine Ye ?_)
         all_goals (first | rfl | (simp; done) | (simp_all; done) | (simp_all; omega))
       · repeat' (first | intro (hb : _ = _) | refine ZV ?_ | refine ZB tm rvk_specs21_ok ?_ | refine ZH ?_ ?_ | refine ZJ (by conv=>lhs; simp [q1,q1',q2,q3,q4,q4',hm,hms,n1,n2,cq,c3,hd,cb,h1,e0]) ?_ | refine ZA ?_ ?_)
         all_goals (first | refine Yd ?_ | refine Ye ?_)
         all_goals (first | rfl | (simp; done) | (simp_all; done) | (simp_all; omega))
end
section
attribute [local simp] instA slice3A slice3C
attribute [-simp] mkv
attribute [local simp] mkv_hd hdA_cons hdA_ob hdA_ob'
def lkIs (f t : Int) (l : Lk) : Bool := l.fr == f && l.to == t
def fndK (f t : Int) (ls : List Lk) : Lk := (ls.find? (lkIs f t)).getD ⟨f,t,false,[]⟩
theorem lkLeafs : leafs Tryz.prog 70 = [3,3,4,55] := lf70
theorem lkC_nrm (l : Lk) : nrmL Tryz.prog (leafs Tryz.prog 70) (lkC l) = lkC l := by
 rw [lkLeafs]
 simp only [lkC,nrmL,nrmV,uM,nrmRows_map msg_nrm]
theorem lkC_nrm0 (f t : Int) (c : Bool) : nrmL Tryz.prog (leafs Tryz.prog 70) [.int .i64 f, .int .i64 t, .bool c, .nils] = lkC ⟨f,t,c,[]⟩ := by
 rw [lkLeafs]
 simp only [lkC,nrmL,nrmV,uM,cM,List.map_nil]
theorem lkC_nrmR (l : Lk) : nrmR Tryz.prog [70] (.agg (lkC l)) = .agg (lkC l) := by
 simp only [nrmR,nrmV]
 rw [lkC_nrm]
noncomputable def fnkS : SpecFn := mkS (fun d : Nts × Int × Int => [d.1.v, .int .i64 d.2.1, .int .i64 d.2.2]) fun d => (.agg (lkC (fndK d.2.1 d.2.2 d.1.ls)),[])
theorem fnkS_eq (d : Nts) (f t : Int) : fnkS [d.v, .int .i64 f, .int .i64 t] [] = some (.agg (lkC (fndK f t d.ls)),[]) :=
 mkS_eq (enc:=fun d : Nts × Int × Int=>[d.1.v,AV.int .i64 d.2.1, .int .i64 d.2.2]) (res:=fun d=>(.agg (lkC (fndK d.2.1 d.2.2 d.1.ls)),[])) (fun x y h=>by
   obtain ⟨a,b,c⟩:=x
   obtain ⟨a',b',c'⟩:=y
   simp only [List.cons.injEq,AV.int.injEq,true_and,and_true] at h
   obtain ⟨h1,rfl,rfl⟩:=h
   cases Nts.v_inj h1
   rfl) (d,f,t)
theorem findK_take {p : Lk → Bool} {l : List Lk} : ∀ {k : Nat} {e : Lk},l[k]? = some e → (∀ x ∈ l.take k,p x = false) → p e = true → l.find? p = some e := by
 induction l with
 | nil=>intro k e h; simp at h
 | cons x r ih =>
   intro k e h h1 h2
   cases k with
   | zero =>
     simp only [List.getElem?_cons_zero,Option.some.injEq] at h
     subst h
     simp [List.find?_cons,h2]
   | succ k =>
     simp only [List.getElem?_cons_succ] at h
     have:=h1 x (by simp)
     rw [List.find?_cons,this]
     exact ih h (fun y hy=>h1 y (by simp [hy])) h2
theorem fnk_ok : FnC Tryz.prog 33 fnkS := by
 refine FnC.walkN 33 (fn:=Tryz.f33) [70] Tryz.func33 rfl (by kernel_rfl) (fun d=>?_) (fun d=>⟨_,lkC_nrmR _⟩)
 obtain ⟨⟨l,hl,he⟩,f,t⟩:=d
 change W _ (RetNf _ _ _ (.agg (lkC (fndK f t l))) []) _ _ ⟨31,[(0, .agg [.list 4 (l.map lkC)]),(1, .int .i64 f),(2, .int .i64 t)],[]⟩
 have cap : l.length ≤ 9223372036854775807:=by omega
 repeat' (first | intro (hb : _ = _) | refine ZV ?_ | refine ZB tm no_specs ?_ | refine ZH ?_ ?_ | refine ZJ (by conv=>lhs; simp [cap]) ?_ | refine ZA ?_ ?_)
 refine W.loop rfl (ι:={ q : Nat × NL ABlk // q.1 ≤ l.length ∧ (∀ x ∈ l.take q.1,lkIs f t x = false) ∧ lk q.2 112 = some { gen:=1,kind:=2,elem:=70,size:=4,inl:=false,rows:=[[.int .i64 0, .int .i64 0, .bool false, .nils]] } })
   (fun q=>⟨31,[(1, .int .i64 f),(2, .int .i64 t),(6, .ptr 112 1 0 0),(10, .list 4 (l.map lkC)),(11, .int .i64 l.length),(12, .int .i64 (q.1.1 : Nat))],q.1.2⟩) (fun q=>l.length - q.1.1)
   ⟨(0,_),by simp,by simp,by first | rfl | simp [lk_st]⟩ (AS.le_of rfl ⟨rfl,rfl,rfl,rfl,rfl,rfl,trivial⟩ (fun _=>rfl)) ?_
 rintro ⟨⟨k,h⟩,hk,hg,h1⟩
 dsimp only at hk hg h1 ⊢
 by_cases hk2 : k = l.length
 · subst hk2
   rw [List.take_length] at hg
   have hf : fndK f t l = ⟨f,t,false,[]⟩:=by
     unfold fndK
     rw [List.find?_eq_none.2 (fun x hx=>by simp [hg x hx])]
     rfl
   rw [hf]
   repeat' (first | intro (hb : _ = _) | refine ZV ?_ | refine ZB tm no_specs ?_ | refine ZH ?_ ?_ | refine ZJ (by conv=>lhs; simp [h1]) ?_ | refine ZA ?_ ?_)
   refine Ye ?_
   simp only [nrmR,nrmV]
   rw [lkC_nrm0]
 · have hlt : k < l.length:=by omega
   obtain ⟨e,hr⟩:=get_lt hlt
   have hm : (l.map lkC)[k]? = some (lkC e):=by rw [List.getElem?_map,hr]; rfl
   have q1 : (k : Int) < l.length:=by omega
   have q2 : ¬ l.length ≤ k:=by omega
   have hw : IntKind.i64.wrap ((k : Int) + 1) = ((k + 1 : Nat) : Int):=w64 (by omega) (by omega)
   have fin : lkIs f t e = true → fndK f t l = e:=fun hi=>by
     unfold fndK
     rw [findK_take hr hg hi]
     rfl
   have nxt : lkIs f t e = false → ∀ x ∈ l.take (k + 1),lkIs f t x = false:=fun hi x hx=>by
     rw [List.take_add_one,hr] at hx
     simp only [Option.toList_some,List.mem_append,List.mem_singleton] at hx
     rcases hx with hx | rfl
     · exact hg x hx
     · exact hi
   obtain ⟨a,b,c,q⟩:=e
   unfold lkIs at fin nxt
   dsimp only at fin nxt
   simp only [lkC] at hm
   cases i1 : (a == f) with
   | false =>
     have:=nxt (by rw [i1]; rfl)
     repeat' (first | intro (hb : _ = _) | refine ZV ?_ | refine ZB tm no_specs ?_ | refine ZH ?_ ?_ | refine ZJ (by conv=>lhs; simp [q1,q2,hm,i1,hw]) ?_ | refine ZA ?_ ?_)
     exact ⟨⟨(k + 1,_),hlt,this,by simp [lk_st,h1]⟩,by dsimp only; omega,AS.le_of rfl ⟨rfl,rfl,rfl,rfl,rfl,rfl,trivial⟩ (fun _=>rfl)⟩
   | true =>
     cases i2 : (b == t) with
     | false =>
       have:=nxt (by rw [i1,i2]; rfl)
       repeat' (first | intro (hb : _ = _) | refine ZV ?_ | refine ZB tm no_specs ?_ | refine ZH ?_ ?_ | refine ZJ (by conv=>lhs; simp [q1,q2,hm,i1,i2,hw]) ?_ | refine ZA ?_ ?_)
       exact ⟨⟨(k + 1,_),hlt,this,by simp [lk_st,h1]⟩,by dsimp only; omega,AS.le_of rfl ⟨rfl,rfl,rfl,rfl,rfl,rfl,trivial⟩ (fun _=>rfl)⟩
     | true =>
       rw [fin (by rw [i1,i2]; rfl)]
       repeat' (first | intro (hb : _ = _) | refine ZV ?_ | refine ZB tm no_specs ?_ | refine ZH ?_ ?_ | refine ZJ (by conv=>lhs; simp [q1,q2,hm,i1,i2,h1]) ?_ | refine ZA ?_ ?_)
       refine Ye ?_
       exact lkC_nrmR ⟨a,b,c,q⟩
def othK (x : Lk) (l : List Lk) : List Lk := l.filter (fun e => e.fr != x.fr || e.to != x.to)
def putP (x : Lk) : List Lk → List Lk
 | []=>[x]
 | e :: r=>if befB e x.fr x.to then e :: putP x r else x :: othK x (e :: r)
def restK (x : Lk) (done : Bool) (l : List Lk) : List Lk := if done then othK x l else putP x l
def putK (x : Lk) (l : List Lk) : List Lk := restK x (!x.cut && x.q.isEmpty) l
theorem putP_len (x : Lk) : ∀ l : List Lk,(putP x l).length ≤ l.length + 1
 | []=>Nat.le_refl _
 | e :: r=>by
   have h1:=putP_len x r
   have h2 : (othK x (e :: r)).length ≤ (e :: r).length:=List.length_filter_le _ _
   rw [putP]
   split
   · simp only [List.length_cons]; omega
   · simp only [List.length_cons] at h2 ⊢; omega
theorem bef_ne {e x : Lk} (h : befB e x.fr x.to = true) : (e.fr != x.fr || e.to != x.to) = true := by
 unfold befB at h
 simp only [Bool.or_eq_true,decide_eq_true_eq,Bool.and_eq_true,beq_iff_eq] at h
 simp only [Bool.or_eq_true,bne_iff_ne,ne_eq]
 omega
structure Pl where
 d : Nts
 x : Lk
 h : okK x
noncomputable def ptlS : SpecFn := mkS (fun p : Pl => [p.d.v, .agg (lkC p.x)]) fun p => (.agg [.list 4 ((putK p.x p.d.ls).map lkC)],[])
theorem ptlS_eq (p : Pl) : ptlS [p.d.v, .agg (lkC p.x)] [] = some (.agg [.list 4 ((putK p.x p.d.ls).map lkC)],[]) :=
 mkS_eq (enc:=fun p : Pl=>[p.d.v,AV.agg (lkC p.x)]) (res:=fun p=>(.agg [.list 4 ((putK p.x p.d.ls).map lkC)],[])) (fun x y h=>by
   obtain ⟨a,b,_⟩:=x
   obtain ⟨a',b',_⟩:=y
   simp only [List.cons.injEq,AV.agg.injEq,and_true] at h
   cases Nts.v_inj h.1
   cases lkC_inj h.2
   rfl) p
theorem uK : Tryz.prog.underlying 22 = some (.slice 70) := by kernel_rfl
theorem cK : Tryz.prog.cellsOf 70 = 4 := by kernel_rfl
theorem nwLeafs : leafs Tryz.prog 24 = [22] := lf24
theorem nts_nrmR (l : List Lk) : nrmR Tryz.prog [24] (.agg [.list 4 (l.map lkC)]) = .agg [.list 4 (l.map lkC)] := by
 simp only [nrmR,nrmV,nwLeafs,nrmL,uK,nrmRows_map lkC_nrm]
noncomputable def ptl_specs : NL Spec := [(43,⟨1,befS⟩)]
theorem ptl_specs_ok : ∀ p ∈ ptl_specs,FnC Tryz.prog p.1 p.2.fn := by
 simp only [ptl_specs,List.mem_cons,List.not_mem_nil,or_false]
 rintro p rfl
 exact bef_ok
attribute [local simp] ptl_specs
structure PlI (x : Lk) (l : List Lk) where
 k : Nat
 done : Bool
 T : List Lk
 g : Nat
 H : NL ABlk
 hk : k ≤ l.length
 hT : T.length ≤ k + done.toNat
 res : T ++ restK x done (l.drop k) = putK x l
 g3 : lk H 64 = some { gen:=1,kind:=2,elem:=70,size:=4,inl:=false,rows:=[lkC x] }
 g4 : lk H 80 = some { gen:=1,kind:=2,elem:=24,size:=1,inl:=false,rows:=[[.nils]] }
 g5 : lk H 96 = some { gen:=1,kind:=2,elem:=24,size:=1,inl:=false,rows:=[[.sl 20000 g 0 T.length]] }
 gM : lk H 20000 = some { gen:=g,kind:=2,elem:=70,size:=4,inl:=true,rows:=T.map lkC }
theorem ptl_ok : FnC Tryz.prog 34 ptlS := by
 refine FnC.walkN 34 (fn:=Tryz.f34) [24] Tryz.func34 rfl (by kernel_rfl) (fun d=>?_) (fun d=>⟨_,nts_nrmR _⟩)
 obtain ⟨⟨l,hl,he⟩,x,hx⟩:=d
 change W _ (RetNf _ _ _ (.agg [.list 4 ((putK x l).map lkC)]) []) _ _ ⟨70,[(0, .agg [.list 4 (l.map lkC)]),(1, .agg (lkC x))],[]⟩
 have cap : l.length ≤ 9223372036854775807:=by omega
 have capx : x.q.length ≤ 9223372036854775807:=by unfold okK at hx; omega
 have hd0 : (x.cut = true ∧ (!x.cut && x.q.isEmpty) = false) ∨ (x.cut = false ∧ ∃ b,((x.q.length : Int) == 0) = b ∧ (!x.cut && x.q.isEmpty) = b):=by
   cases h : x.cut with
   | true=>exact .inl ⟨rfl,rfl⟩
   | false =>
     right
     refine ⟨rfl,x.q.isEmpty, ?_,rfl⟩
     cases x.q with
     | nil=>rfl
     | cons a r=>simp; omega
 simp only [lkC]
 repeat' (first | intro (hb : _ = _) | refine ZV ?_ | refine ZB (id:=0) tm ptl_specs_ok ?_ | refine ZB (id:=1) tm ptl_specs_ok ?_ | refine ZH ?_ ?_ | refine ZJ (by conv=>lhs; simp [cap]) ?_ | refine ZA ?_ ?_)
 refine W.phR 96 0 0 20000 70 4 true rfl rfl rfl rfl rfl rfl (by decide) ?_
 rcases hd0 with ⟨hc,hD⟩ | ⟨hc,b,hb0,hD⟩
 repeat' (first | intro (hb : _ = _) | refine ZV ?_ | refine ZB (id:=2) tm ptl_specs_ok ?_ | refine ZB (id:=3) tm ptl_specs_ok ?_ | refine ZH ?_ ?_ | refine ZJ (by conv=>lhs; simp [cap,capx,hc]) ?_ | refine ZA ?_ ?_)
 refine W.loop rfl (ι:=PlI x l)
   (fun q=>⟨70,[(3, .ptr 64 1 0 0),(4, .ptr 80 1 0 0),(5, .ptr 96 1 0 0),(6, .bool q.done),(19, .list 4 (l.map lkC)),(20, .int .i64 l.length),(21, .int .i64 (q.k : Nat))],q.H⟩) (fun q=>l.length - q.k)
   ⟨0,false,[],0,_,by simp,by simp,by rw [putK,hD]; simp,by simp [lk_st,lk,lkC,hc],by simp [lk_st,lk],by simp [lk_st,lk],by simp [lk_st,lk]⟩ (AS.le_of rfl ⟨rfl,rfl,rfl,rfl,rfl,rfl,rfl,trivial⟩ (fun _=>rfl)) ?_
 rotate_left 1
 repeat' (first | intro (hb : _ = _) | refine ZV ?_ | refine ZB (id:=2) tm ptl_specs_ok ?_ | refine ZB (id:=3) tm ptl_specs_ok ?_ | refine ZH ?_ ?_ | refine ZJ (by conv=>lhs; simp [cap,capx,hc]) ?_ | refine ZA ?_ ?_)
 refine W.loop rfl (ι:=PlI x l)
   (fun q=>⟨70,[(3, .ptr 64 1 0 0),(4, .ptr 80 1 0 0),(5, .ptr 96 1 0 0),(6, .bool q.done),(19, .list 4 (l.map lkC)),(20, .int .i64 l.length),(21, .int .i64 (q.k : Nat))],q.H⟩) (fun q=>l.length - q.k)
   ⟨0,((x.q.length : Int) == 0),[],0,_,by simp,by simp,by rw [putK,hD,hb0]; simp,by simp [lk_st,lk,lkC,hc],by simp [lk_st,lk],by simp [lk_st,lk],by simp [lk_st,lk]⟩ (AS.le_of rfl ⟨rfl,rfl,rfl,rfl,rfl,rfl,rfl,trivial⟩ (fun _=>rfl)) ?_
 all_goals (
   clear hc hD
   rintro ⟨k,dn,T,g,H,hk,hT,res,g3,g4,g5,gM⟩
   dsimp only at hk hT res g3 g4 g5 gM ⊢
   simp only [lkC] at g3
   have hdn : dn.toNat ≤ 1:=Bool.toNat_le dn
   have y1 : T.length ≤ maxLen:=by simp only [maxLen]; omega
   have y2 : (T.length + 1) * 48 ≤ 140737488355328:=by omega
   have y4 : T.length + 1 ≤ maxLen:=by simp only [maxLen]; omega
   have fT : firstRows T.length (T.map lkC) = T.map lkC:=first_all (by simp)
   by_cases hk2 : k = l.length
   · subst hk2
     rw [List.drop_length] at res
     cases dn with
     | true =>
       have : putK x l = T:=by rw [← res]; simp [restK,othK]
       rw [this]
       have tT : List.take T.length (T.map lkC) = T.map lkC:=List.take_of_length_le (by simp)
       clear y1 y2 y4 fT hT res this
       repeat' (first | intro (hb : _ = _) | refine ZV ?_ | refine ZB tm ptl_specs_ok ?_ | refine ZH ?_ ?_ | refine ZJ (by conv=>lhs; simp [g3,g4,g5,gM]) ?_ | refine ZA ?_ ?_)
       refine RetNf.dataE rfl (by conv=>lhs; simp) (by conv=>lhs; simp [frqT,frqV,frqL,frq1,frz1,AP.run,gM,tT]) (by first | rfl | simp [inlT,inlV]) ?_
       exact nts_nrmR T
     | false =>
       obtain ⟨T2,hT2⟩ : ∃ T2,T ++ [x] = T2:=⟨_,rfl⟩
       have : putK x l = T2:=by rw [← res, ← hT2]; simp [restK,putP]
       rw [this]
       have hl2 : T2.length = T.length + 1:=by rw [← hT2]; simp
       have hrow : T.map lkC ++ [lkC x] = T2.map lkC:=by rw [← hT2]; simp
       simp only [lkC] at hrow
       have tT : List.take (T.length + 1) (T2.map lkC) = T2.map lkC:=List.take_of_length_le (by simp; omega)
       clear hdn res this
       repeat' (first | intro (hb : _ = _) | refine ZV ?_ | refine ZB tm ptl_specs_ok ?_ | refine ZH ?_ ?_ | refine ZJ (by conv=>lhs; simp [g3,g4,g5,gM,y1,y2,y4,fT,hrow,m1]) ?_ | refine ZA ?_ ?_)
       refine RetNf.dataE rfl (by conv=>lhs; simp) (by conv=>lhs; simp [frqT,frqV,frqL,frq1,frz1,AP.run,gM,tT,hl2]) (by first | rfl | simp [inlT,inlV]) ?_
       exact nts_nrmR T2
   · have hlt : k < l.length:=by omega
     obtain ⟨e,hr⟩:=get_lt hlt
     have hm : (l.map lkC)[k]? = some (lkC e):=by rw [List.getElem?_map,hr]; rfl
     have hd : l.drop k = e :: l.drop (k + 1):=by
       obtain ⟨h1,h2⟩:=List.getElem?_eq_some_iff.1 hr
       rw [List.drop_eq_getElem_cons h1,h2]
     rw [hd] at res
     have cb:=befS_eq e (he e (List.mem_of_getElem? hr)) x.fr x.to
     have q1 : (k : Int) < l.length:=by omega
     have q2 : ¬ l.length ≤ k:=by omega
     have hw : IntKind.i64.wrap ((k : Int) + 1) = ((k + 1 : Nat) : Int):=w64 (by omega) (by omega)
     simp only [lkC] at hm cb
     obtain ⟨tl,htl⟩ : ∃ tl,l.drop (k + 1) = tl:=⟨_,rfl⟩
     rw [htl] at res
     clear hd
     obtain ⟨B,hB⟩ : ∃ B,(e.fr != x.fr || e.to != x.to) = B:=⟨_,rfl⟩
     have oh : othK x (e :: tl) = (if B then [e] else []) ++ othK x tl:=by
       rw [← hB]
       unfold othK
       rw [List.filter_cons]
       split <;> simp
     repeat' (first | intro (hb : _ = _) | refine ZV ?_ | refine ZB (id:=4) tm ptl_specs_ok ?_ | refine ZB (id:=5) tm ptl_specs_ok ?_ | refine ZH ?_ ?_ | refine ZJ (by conv=>lhs; simp [q1,q2,hm]) ?_ | refine ZA ?_ ?_)
     refine W.cutT (fun σ' => ∃ (d2 : Bool) (T2 : List Lk) (g2 G : Nat) (H2 : NL ABlk),T2.length ≤ k + d2.toNat ∧ T2 ++ ((if B then [e] else []) ++ restK x d2 tl) = putK x l ∧ lk H2 64 = some { gen:=1,kind:=2,elem:=70,size:=4,inl:=false,rows:=[lkC x] } ∧ lk H2 80 = some { gen:=1,kind:=2,elem:=24,size:=1,inl:=false,rows:=[[.nils]] } ∧ lk H2 96 = some { gen:=1,kind:=2,elem:=24,size:=1,inl:=false,rows:=[[.sl 20000 g2 0 T2.length]] } ∧ lk H2 20000 = some { gen:=g2,kind:=2,elem:=70,size:=4,inl:=true,rows:=T2.map lkC } ∧ lk H2 144 = some { gen:=G,kind:=2,elem:=70,size:=4,inl:=false,rows:=[lkC e] } ∧ AS.le ⟨70,[(3, .ptr 64 1 0 0),(4, .ptr 80 1 0 0),(5, .ptr 96 1 0 0),(6, .bool d2),(8, .ptr 144 G 0 0),(19, .list 4 (l.map lkC)),(20, .int .i64 l.length),(21, .int .i64 (k : Nat))],H2⟩ σ') ?_ ?_
     · cases dn with
       | true =>
         have r1 : T ++ ((if B then [e] else []) ++ restK x true tl) = putK x l:=by
           rw [← res]
           simp only [restK,if_true]
           rw [oh]
         clear y1 y2 y4 fT
         repeat' (first | intro (hb : _ = _) | refine ZV ?_ | refine ZB tm ptl_specs_ok ?_ | refine ZH ?_ ?_ | refine ZJ (by conv=>lhs; simp [g3,g4,g5,gM]) ?_ | refine ZA ?_ ?_)
         exact ⟨true,T,g,_,_,hT,r1,by simp [lk_st,g3,lkC],by simp [lk_st,g4],by simp [lk_st,g5],by simp [lk_st,gM],by simp [lk_st,lkC],AS.le_of rfl ⟨rfl,rfl,rfl,rfl,rfl,rfl,rfl,rfl,trivial⟩ (fun _=>rfl)⟩
       | false =>
         simp only [restK,Bool.false_eq_true,if_false] at res
         rw [putP] at res
         cases n2 : befB e x.fr x.to with
         | false =>
           rw [n2] at cb
           rw [if_neg (by simp [n2])] at res
           have hrow : T.map lkC ++ [lkC x] = (T ++ [x]).map lkC:=by simp
           simp only [lkC] at hrow
           have hl2 : (T ++ [x]).length = T.length + 1:=by simp
           have r1 : (T ++ [x]) ++ ((if B then [e] else []) ++ restK x true tl) = putK x l:=by
             rw [← res,oh]
             simp only [restK,if_true,List.append_assoc,List.cons_append,List.nil_append]
           generalize T ++ [x] = T2 at *
           have r2 : T2.length ≤ k + (true : Bool).toNat:=by simp only [Bool.toNat_true,Bool.toNat_false] at hT ⊢; omega
           clear hdn res
           repeat' (first | intro (hb : _ = _) | refine ZV ?_ | refine ZB tm ptl_specs_ok ?_ | refine ZH ?_ ?_ | refine ZJ (by conv=>lhs; simp [cb,g3,g4,g5,gM,y1,y2,y4,fT,hrow,m1]) ?_ | refine ZA ?_ ?_)
           exact ⟨true,T2,g + 1,_,_,r2,r1,by simp [lk_st,g3,lkC],by simp [lk_st,g4],by simp [lk_st,hl2],by simp [lk_st],by simp [lk_st,lkC],AS.le_of rfl ⟨rfl,rfl,rfl,rfl,rfl,rfl,rfl,rfl,trivial⟩ (fun _=>rfl)⟩
         | true =>
           rw [n2] at cb
           rw [if_pos n2] at res
           have hBt : B = true:=by rw [← hB]; exact bef_ne n2
           have r1 : T ++ ((if B then [e] else []) ++ restK x false tl) = putK x l:=by
             rw [← res,hBt]
             simp [restK]
           clear hdn res
           repeat' (first | intro (hb : _ = _) | refine ZV ?_ | refine ZB tm ptl_specs_ok ?_ | refine ZH ?_ ?_ | refine ZJ (by conv=>lhs; simp [cb,g3,g4,g5,gM]) ?_ | refine ZA ?_ ?_)
           exact ⟨false,T,g,_,_,hT,r1,by simp [lk_st,g3,lkC],by simp [lk_st,g4],by simp [lk_st,g5],by simp [lk_st,gM],by simp [lk_st,lkC],AS.le_of rfl ⟨rfl,rfl,rfl,rfl,rfl,rfl,rfl,rfl,trivial⟩ (fun _=>rfl)⟩
     · clear y1 y2 y4 fT g3 g4 g5 gM hT res hdn oh cb
       rintro σ' ⟨d2,T,g,G,H,hT,res,g3,g4,g5,gM,g8,hle⟩
       refine W.weak hle ?_
       clear hle
       have hdn : d2.toNat ≤ 1:=Bool.toNat_le d2
       have y1 : T.length ≤ maxLen:=by simp only [maxLen]; omega
       have y2 : (T.length + 1) * 48 ≤ 140737488355328:=by omega
       have y4 : T.length + 1 ≤ maxLen:=by simp only [maxLen]; omega
       have fT : firstRows T.length (T.map lkC) = T.map lkC:=first_all (by simp)
       subst htl
       simp only [lkC] at g3 g8
       cases B with
       | false =>
         rw [if_neg (by simp)] at res
         have n1 : (e.fr != x.fr) = false:=by simp only [Bool.or_eq_false_iff] at hB; exact hB.1
         have n2 : (e.to != x.to) = false:=by simp only [Bool.or_eq_false_iff] at hB; exact hB.2
         clear y1 y2 y4 fT
         repeat' (first | intro (hb : _ = _) | refine ZV ?_ | refine ZB tm ptl_specs_ok ?_ | refine ZH ?_ ?_ | refine ZJ (by conv=>lhs; simp [n1,n2,hw,g3,g4,g5,gM,g8]) ?_ | refine ZA ?_ ?_)
         exact ⟨⟨k + 1,d2,T,g,_,hlt,by omega,res,by simp [lk_st,g3,lkC],by simp [lk_st,g4],by simp [lk_st,g5],by simp [lk_st,gM]⟩,by dsimp only; omega,AS.le_of rfl ⟨rfl,rfl,rfl,rfl,rfl,rfl,rfl,trivial⟩ (fun _=>rfl)⟩
       | true =>
         rw [if_pos rfl] at res
         have hrow : T.map lkC ++ [lkC e] = (T ++ [e]).map lkC:=by simp
         simp only [lkC] at hrow
         have hl2 : (T ++ [e]).length = T.length + 1:=by simp
         have r1 : (T ++ [e]) ++ restK x d2 (l.drop (k + 1)) = putK x l:=by rw [← res]; simp
         generalize T ++ [e] = T2 at *
         have r2 : T2.length ≤ k + 1 + d2.toNat:=by omega
         clear hdn res hT
         by_cases n1 : (e.fr != x.fr) = true
         · clear hB
           repeat' (first | intro (hb : _ = _) | refine ZV ?_ | refine ZB tm ptl_specs_ok ?_ | refine ZH ?_ ?_ | refine ZJ (by conv=>lhs; simp [n1,hw,g3,g4,g5,gM,g8,y1,y2,y4,fT,hrow,m1]) ?_ | refine ZA ?_ ?_)
           exact ⟨⟨k + 1,d2,T2,g + 1,_,hlt,r2,r1,by simp [lk_st,g3,lkC],by simp [lk_st,g4],by simp [lk_st,hl2],by simp [lk_st]⟩,by dsimp only; omega,AS.le_of rfl ⟨rfl,rfl,rfl,rfl,rfl,rfl,rfl,trivial⟩ (fun _=>rfl)⟩
         · have n1 : (e.fr != x.fr) = false:=by simpa using n1
           have n2 : (e.to != x.to) = true:=by rw [n1] at hB; simpa using hB
           clear hB
           repeat' (first | intro (hb : _ = _) | refine ZV ?_ | refine ZB tm ptl_specs_ok ?_ | refine ZH ?_ ?_ | refine ZJ (by conv=>lhs; simp [n1,n2,hw,g3,g4,g5,gM,g8,y1,y2,y4,fT,hrow,m1]) ?_ | refine ZA ?_ ?_)
           exact ⟨⟨k + 1,d2,T2,g + 1,_,hlt,r2,r1,by simp [lk_st,g3,lkC],by simp [lk_st,g4],by simp [lk_st,hl2],by simp [lk_st]⟩,by dsimp only; omega,AS.le_of rfl ⟨rfl,rfl,rfl,rfl,rfl,rfl,rfl,trivial⟩ (fun _=>rfl)⟩)
end
section
attribute [local simp] instA slice3A slice3C
noncomputable def nannR (x : Int) : AV := .bool false
noncomputable def nannS : SpecFn := mkS (fun p : Int => [.int .i64 p]) fun p => (nannR p,[])
theorem nann_eq (x : Int) : nannS [.int .i64 x] [] = some (nannR (x),[]) :=
 mkS_eq (enc:=fun p : Int=>[.int .i64 p]) (res:=fun p=>(nannR p,[])) (fun x y h=>by
   obtain ⟨h0,h⟩:=List.cons.inj h
   have e0:=AVi h0
   subst e0
   rfl) (x)
theorem nann_ok : FnC Tryz.prog 92 nannS := by
 refine FnC.walk 92 (fn:=Tryz.f92) Tryz.func92 rfl (by kernel_rfl) fun p=>?_
 revert p; intro x
 change W _ (Ret _ _ (nannR (x)) []) _ _ ⟨6,[(0, .int .i64 x)],[]⟩
 repeat' (first | intro (hb : _ = _) | refine ZV ?_ | refine ZB tm no_specs ?_ | refine ZH ?_ ?_ | refine ZJ (by conv=>lhs; simp) ?_ | refine ZA ?_ ?_)
 all_goals (first | refine Yd ?_ | refine Ye ?_)
 all_goals (first | rfl | (simp [nannR]; done) | (simp_all [nannR]; done) | (simp_all [nannR]; omega))
noncomputable def cmpnR (x : Int) (y : Int) : AV := .int .i64 (cmpI x y)
noncomputable def cmpnS : SpecFn := mkS (fun p : Int × Int => [.int .i64 p.1, .int .i64 p.2]) fun p => (cmpnR p.1 p.2,[])
theorem cmpn_eq (x : Int) (y : Int) : cmpnS [.int .i64 x, .int .i64 y] [] = some (cmpnR (x) (y),[]) :=
 mkS_eq (enc:=fun p : Int × Int=>[.int .i64 p.1, .int .i64 p.2]) (res:=fun p=>(cmpnR p.1 p.2,[])) (fun x y h=>by
   obtain ⟨a0,a1⟩:=x
   obtain ⟨b0,b1⟩:=y
   obtain ⟨h0,h⟩:=List.cons.inj h
   obtain ⟨h1,h⟩:=List.cons.inj h
   have e0:=AVi h0
   subst e0
   have e1:=AVi h1
   subst e1
   rfl) (x,y)
noncomputable def cmpn_ok_specs : NL Spec := [(92,⟨1,nannS⟩)]
theorem cmpn_ok_specs_ok : ∀ p ∈ cmpn_ok_specs,FnC Tryz.prog p.1 p.2.fn := by
 simp only [cmpn_ok_specs,List.mem_cons,List.not_mem_nil,or_false]
 rintro p rfl
 · exact nann_ok
attribute [local simp] cmpn_ok_specs nann_eq
theorem cmpn_ok : FnC Tryz.prog 72 cmpnS := by
 refine FnC.walk 72 (fn:=Tryz.f72) Tryz.func72 rfl (by kernel_rfl) fun p=>?_
 obtain ⟨x,y⟩:=p
 change W _ (Ret _ _ (cmpnR (x) (y)) []) _ _ ⟨20,[(0, .int .i64 x),(1, .int .i64 y)],[]⟩
 repeat' (first | intro (hb : _ = _) | refine ZV ?_ | refine ZB tm cmpn_ok_specs_ok ?_ | refine ZH ?_ ?_ | refine ZJ (by conv=>lhs; simp [nannR]) ?_ | refine ZA ?_ ?_)
 all_goals (first | refine Yd ?_ | refine Ye ?_)
 all_goals (first | rfl | (simp [cmpnR,cmpI]; done) | (simp_all [cmpnR,cmpI]; done) | (simp_all [cmpnR,cmpI]; omega))
attribute [-simp] mkv
attribute [local simp] mkv_hd hdA_cons hdA_ob hdA_ob'
def orI (a b : Int) : Int := if a = 0 then b else a
noncomputable def orS : SpecFn := mkS (fun d : Int × Int => [.list 1 [[.int .i64 d.1],[.int .i64 d.2]]]) fun d => (.int .i64 (orI d.1 d.2),[])
theorem orS_eq (a b : Int) : orS [.list 1 [[.int .i64 a],[.int .i64 b]]] [] = some (.int .i64 (orI a b),[]) :=
 mkS_eq (enc:=fun d : Int × Int=>[AV.list 1 [[.int .i64 d.1],[.int .i64 d.2]]]) (fun x y h=>by
   simp only [List.cons.injEq,AV.list.injEq,AV.int.injEq,true_and,and_true] at h
   rw [Prod.ext h.1 h.2]) (a,b)
theorem or_ok : FnC Tryz.prog 71 orS := by
 refine FnC.walk 71 (fn:=Tryz.f71) Tryz.func71 rfl (by kernel_rfl) fun d=>?_
 obtain ⟨a,b⟩:=d
 change W _ (Ret _ _ (.int .i64 (orI a b)) []) _ _ ⟨18,[(0, .list 1 [[.int .i64 a],[.int .i64 b]])],[]⟩
 obtain ⟨l,hl⟩ : ∃ l : List (List AV),l = [[.int .i64 a],[.int .i64 b]]:=⟨_,rfl⟩
 have g0 : l[0]? = some [.int .i64 a]:=by rw [hl]; rfl
 have g1 : l[1]? = some [.int .i64 b]:=by rw [hl]; rfl
 have gl : l.length = 2:=by rw [hl]; rfl
 rw [← hl]
 clear hl
 have cap : l.length ≤ 9223372036854775807:=by omega
 repeat' (first | intro (hb : _ = _) | refine ZV ?_ | refine ZB tm no_specs ?_ | refine ZH ?_ ?_ | refine ZJ (by conv=>lhs; simp [cap]) ?_ | refine ZA ?_ ?_)
 refine W.loop rfl (ι:={ q : Nat // q ≤ 2 ∧ (q = 1 → a = 0) ∧ (q = 2 → a = 0 ∧ b = 0) })
   (fun q=>⟨18,[(3, .int .i64 0),(6, .list 1 l),(7, .int .i64 l.length),(8, .int .i64 (q.1 : Nat))],[]⟩) (fun q=>2 - q.1)
   ⟨0,by omega,by omega,by omega⟩ (AS.le_of rfl ⟨rfl,rfl,rfl,rfl,trivial⟩ (fun _=>rfl)) ?_
 rintro ⟨k,hk,h1,h2⟩
 dsimp only at hk h1 h2 ⊢
 rcases (show k = 0 ∨ k = 1 ∨ k = 2 by omega) with rfl | rfl | rfl
 · have q2 : ¬ l.length ≤ 0:=by omega
   rw [gl]
   by_cases ha : a = 0
   · subst ha
     repeat' (first | intro (hb : _ = _) | refine ZV ?_ | refine ZB tm no_specs ?_ | refine ZH ?_ ?_ | refine ZJ (by conv=>lhs; simp [q2,g0]) ?_ | refine ZA ?_ ?_)
     exact ⟨⟨1,by omega,by omega,by omega⟩,by dsimp only; omega,AS.le_of rfl ⟨rfl,by simp [gl],rfl,rfl,trivial⟩ (fun _=>rfl)⟩
   · have ha' : (a != 0) = true:=by simpa using ha
     repeat' (first | intro (hb : _ = _) | refine ZV ?_ | refine ZB tm no_specs ?_ | refine ZH ?_ ?_ | refine ZJ (by conv=>lhs; simp [q2,g0,ha']) ?_ | refine ZA ?_ ?_)
     all_goals (first | refine Yd ?_ | refine Ye ?_)
     all_goals (first | rfl | (simp [orI,ha]; done) | (simp_all [orI,ha]; done) | (simp_all [orI,ha]; omega))
 · have ha:=h1 rfl
   subst ha
   rw [gl]
   have q2 : ¬ l.length ≤ 1:=by omega
   by_cases hb : b = 0
   · subst hb
     repeat' (first | intro (hb : _ = _) | refine ZV ?_ | refine ZB tm no_specs ?_ | refine ZH ?_ ?_ | refine ZJ (by conv=>lhs; simp [q2,g1]) ?_ | refine ZA ?_ ?_)
     exact ⟨⟨2,by omega,by omega,fun _=>⟨rfl,rfl⟩⟩,by dsimp only; omega,AS.le_of rfl ⟨rfl,by simp [gl],rfl,rfl,trivial⟩ (fun _=>rfl)⟩
   · have hb' : (b != 0) = true:=by simpa using hb
     repeat' (first | intro (hb : _ = _) | refine ZV ?_ | refine ZB tm no_specs ?_ | refine ZH ?_ ?_ | refine ZJ (by conv=>lhs; simp [q2,g1,hb']) ?_ | refine ZA ?_ ?_)
     all_goals (first | refine Yd ?_ | refine Ye ?_)
     all_goals (first | rfl | (simp [orI]; done) | (simp_all [orI]; done) | (simp_all [orI]; omega))
 · obtain ⟨ha,hb⟩:=h2 rfl
   subst ha hb
   rw [gl]
   repeat' (first | intro (hb : _ = _) | refine ZV ?_ | refine ZB tm no_specs ?_ | refine ZH ?_ ?_ | refine ZJ (by conv=>lhs; simp) ?_ | refine ZA ?_ ?_)
   all_goals (first | refine Yd ?_ | refine Ye ?_)
   all_goals (first | rfl | (simp [orI]; done) | (simp_all [orI]; done) | (simp_all [orI]; omega))
def cmL (l : Lk) (f t : Int) : Int := orI (cmpI l.fr f) (cmpI l.to t)
theorem cmL_lt (l : Lk) (f t : Int) : (cmL l f t < 0) ↔ befB l f t = true := by
 unfold cmL orI befB cmpI
 simp only [Bool.or_eq_true,Bool.and_eq_true,decide_eq_true_eq,beq_iff_eq]
 split <;> split <;> (try split) <;> (try split) <;> omega
theorem cmL_eq (l : Lk) (f t : Int) : (cmL l f t == 0) = lkIs f t l := by
 have : cmL l f t = 0 ↔ lkIs f t l = true:=by
   unfold cmL orI lkIs cmpI
   simp only [Bool.and_eq_true,beq_iff_eq]
   split <;> split <;> (try split) <;> (try split) <;> omega
 rw [Bool.eq_iff_iff]
 simpa using this
noncomputable def cmlS : SpecFn := mkS (fun d : {l : Lk // okK l} × Int × Int => [.agg (lkC d.1.1), .agg [.int .i64 d.2.1, .int .i64 d.2.2]]) fun d => (.int .i64 (cmL d.1.1 d.2.1 d.2.2),[])
theorem cmlS_eq (l : Lk) (h : okK l) (f t : Int) : cmlS [.agg (lkC l), .agg [.int .i64 f, .int .i64 t]] [] = some (.int .i64 (cmL l f t),[]) :=
 mkS_eq (enc:=fun d : {l : Lk // okK l} × Int × Int=>[AV.agg (lkC d.1.1), .agg [.int .i64 d.2.1, .int .i64 d.2.2]]) (res:=fun d=>(.int .i64 (cmL d.1.1 d.2.1 d.2.2),[])) (fun x y h=>by
   obtain ⟨a,b,c⟩:=x
   obtain ⟨a',b',c'⟩:=y
   simp only [List.cons.injEq,AV.agg.injEq,AV.int.injEq,true_and,and_true] at h
   obtain ⟨h1,rfl,rfl⟩:=h
   rw [Subtype.ext (lkC_inj h1)]) (⟨l,h⟩,f,t)
noncomputable def cml_specs : NL Spec := [(72,⟨1,cmpnS⟩),(71,⟨1,orS⟩)]
theorem cml_specs_ok : ∀ p ∈ cml_specs,FnC Tryz.prog p.1 p.2.fn := by
 simp only [cml_specs,List.mem_cons,List.not_mem_nil,or_false]
 rintro p (rfl | rfl)
 · exact cmpn_ok
 · exact or_ok
attribute [local simp] cml_specs
theorem cml_ok : FnC Tryz.prog 42 cmlS := by
 refine FnC.walk 42 (fn:=Tryz.f42) Tryz.func42 rfl (by kernel_rfl) fun d=>?_
 obtain ⟨⟨⟨a,b,c,q⟩,hl⟩,f,t⟩:=d
 change W _ (Ret _ _ (.int .i64 (orI (cmpI a f) (cmpI b t))) []) _ _ ⟨17,[(0, .agg [.int .i64 a, .int .i64 b, .bool c, .list 45 (q.map Msg.v)]),(1, .agg [.int .i64 f, .int .i64 t])],[]⟩
 have c1:=cmpn_eq a f
 have c2:=cmpn_eq b t
 have c3:=orS_eq (cmpI a f) (cmpI b t)
 simp only [cmpnR] at c1 c2
 have m2' : (2 : Nat) ≤ maxLen:=by decide
 repeat' (first | intro (hb : _ = _) | refine ZV ?_ | refine ZB tm cml_specs_ok ?_ | refine ZH ?_ ?_ | refine ZJ (by conv=>lhs; simp [c1,c2,c3,m2']) ?_ | refine ZA ?_ ?_)
 all_goals (first | refine Yd ?_ | refine Ye ?_)
 all_goals (first | rfl | (simp; done) | (simp_all; done) | (simp_all; omega))
def bsN (l : List Lk) (f t : Int) : Nat := bsF (fun k => match l[k]? with | some x => befB x f t | none => false) 0 l.length
def hasN (l : List Lk) (k : Nat) (f t : Int) : Bool := match l[k]? with | some x => lkIs f t x | none => false
noncomputable def bsnS : SpecFn := mkS (fun d : Nts × Int × Int => [.list 4 (d.1.ls.map lkC), .agg [.int .i64 d.2.1, .int .i64 d.2.2], .fn (.func 42) [] []]) fun d => (.tup [.int .i64 (bsN d.1.ls d.2.1 d.2.2 : Nat), .bool (hasN d.1.ls (bsN d.1.ls d.2.1 d.2.2) d.2.1 d.2.2)],[])
theorem bsnS_eq (d : Nts) (f t : Int) : bsnS [.list 4 (d.ls.map lkC), .agg [.int .i64 f, .int .i64 t], .fn (.func 42) [] []] [] = some (.tup [.int .i64 (bsN d.ls f t : Nat), .bool (hasN d.ls (bsN d.ls f t) f t)],[]) :=
 mkS_eq (enc:=fun d : Nts × Int × Int=>[AV.list 4 (d.1.ls.map lkC), .agg [.int .i64 d.2.1, .int .i64 d.2.2], .fn (.func 42) [] []]) (res:=fun d=>(.tup [.int .i64 (bsN d.1.ls d.2.1 d.2.2 : Nat), .bool (hasN d.1.ls (bsN d.1.ls d.2.1 d.2.2) d.2.1 d.2.2)],[])) (fun x y h=>by
   obtain ⟨⟨a,ha,hb⟩,b,c⟩:=x
   obtain ⟨⟨a',ha',hb'⟩,b',c'⟩:=y
   simp only [List.cons.injEq,AV.agg.injEq,AV.list.injEq,AV.int.injEq,true_and,and_true] at h
   obtain ⟨h1,rfl,rfl⟩:=h
   cases lks_inj h1
   rfl) (d,f,t)
noncomputable def bsn_specs : NL Spec := [(42,⟨0,cmlS⟩)]
theorem bsn_specs_ok : ∀ p ∈ bsn_specs,FnC Tryz.prog p.1 p.2.fn := by
 simp only [bsn_specs,List.mem_cons,List.not_mem_nil,or_false]
 rintro p rfl
 exact cml_ok
attribute [local simp] bsn_specs
theorem bsn_ok : FnC Tryz.prog 56 bsnS := by
 refine FnC.walk 56 (fn:=Tryz.f56) Tryz.func56 rfl (by kernel_rfl) fun d=>?_
 obtain ⟨⟨l,lh,lq⟩,f,t⟩:=d
 change W _ (Ret _ _ (.tup [.int .i64 (bsN l f t : Nat), .bool (hasN l (bsN l f t) f t)]) []) _ _ ⟨49,[(0, .list 4 (l.map lkC)),(1, .agg [.int .i64 f, .int .i64 t]),(2, .fn (.func 42) [] [])],[]⟩
 have cap : l.length ≤ 9223372036854775807:=by omega
 repeat' (first | intro (hb : _ = _) | refine ZV ?_ | refine ZB tm bsn_specs_ok ?_ | refine ZH ?_ ?_ | refine ZJ (by conv=>lhs; simp [cap]) ?_ | refine ZA ?_ ?_)
 obtain ⟨B,hE⟩ : ∃ B,bsN l f t = B:=⟨_,rfl⟩
 have hB:=hE
 unfold bsN at hB
 generalize hC : (fun (k : Nat)=>match l[k]? with | some (x : Lk)=>befB x f t | none=>false) = C at hB
 refine W.loop rfl (ι:={ q : Nat × Nat × NL ABlk // q.1 ≤ q.2.1 ∧ q.2.1 ≤ l.length ∧ bsF C q.1 q.2.1 = B ∧ (lk q.2.2 80 = some { gen:=1,kind:=2,elem:=41,size:=2,inl:=false,rows:=[[.int .i64 f, .int .i64 t]] }) })
   (fun q=>⟨49,[(0, .list 4 (l.map lkC)),(2, .fn (.func 42) [] []),(4, .ptr 80 1 0 0),(8, .int .i64 l.length),(9, .int .i64 (q.1.1 : Nat)),(10, .int .i64 (q.1.2.1 : Nat))],q.1.2.2⟩) (fun q=>q.1.2.1 - q.1.1)
   ⟨(0,l.length,_),by simp,by simp,hB,rfl⟩ (AS.le_of rfl ⟨rfl,rfl,rfl,rfl,rfl,rfl,trivial⟩ (fun _=>rfl)) ?_
 rintro ⟨⟨lo,hi,h⟩,h1,h2,h3,h4⟩
 dsimp only at h1 h2 h3 h4 ⊢
 by_cases hlt : lo < hi
 · rw [bsF_lt hlt] at h3
   have q1 : (lo : Int) < hi:=by omega
   obtain ⟨m,hm⟩ : ∃ m,(lo + hi) / 2 = m:=⟨_,rfl⟩
   rw [hm] at h3
   obtain ⟨x,hx⟩:=get_lt (l:=l) (i:=m) (by omega)
   have hg : (l.map lkC)[m]? = some (lkC x):=by rw [List.getElem?_map,hx]; rfl
   have q2 : ¬ l.length ≤ m:=by omega
   have hw : IntKind.i64.wrap ((m : Int) + 1) = ((m + 1 : Nat) : Int):=w64 (by omega) (by omega)
   have hcm : C m = befB x f t:=by rw [← hC]; simp only [hx]
   rw [hcm] at h3
   clear hlt
   have hh:=half (lo:=lo) (hi:=hi) (by omega)
   rw [hm] at hh
   have cc:=cmlS_eq x (lq x (List.mem_of_getElem? hx)) f t
   have cl:=cmL_lt x f t
   generalize cmL x f t = cv at cc cl
   obtain ⟨a1,a2,a3,q⟩:=x
   simp only [lkC] at hg cc
   by_cases hlt2 : cv < 0
   · rw [if_pos (cl.1 hlt2)] at h3
     repeat' (first | intro (hb : _ = _) | refine ZV ?_ | refine ZB tm bsn_specs_ok ?_ | refine ZH ?_ ?_ | refine ZJ (by conv=>lhs; simp [q1,hh,q2,hg,cc,hw,h4,hlt2]) ?_ | refine ZA ?_ ?_)
     exact ⟨⟨(m + 1,hi,_),by dsimp only; omega,h2,h3,by simp [lk_st,h4]⟩,by dsimp only; omega,AS.le_of rfl ⟨rfl,rfl,rfl,rfl,rfl,rfl,trivial⟩ (fun _=>rfl)⟩
   · rw [if_neg (fun c=>hlt2 (cl.2 c))] at h3
     repeat' (first | intro (hb : _ = _) | refine ZV ?_ | refine ZB tm bsn_specs_ok ?_ | refine ZH ?_ ?_ | refine ZJ (by conv=>lhs; simp [q1,hh,q2,hg,cc,hw,h4,hlt2]) ?_ | refine ZA ?_ ?_)
     exact ⟨⟨(lo,m,_),by dsimp only; omega,by dsimp only; omega,h3,by simp [lk_st,h4]⟩,by dsimp only; omega,AS.le_of rfl ⟨rfl,rfl,rfl,rfl,rfl,rfl,trivial⟩ (fun _=>rfl)⟩
 · rw [bsF_ge hlt] at h3
   subst h3
   have q1 : ¬ (lo : Int) < hi:=by omega
   have e1 : lo = hi:=by omega
   subst e1
   by_cases hz : lo < l.length
   · obtain ⟨x,hx⟩:=get_lt (l:=l) (i:=lo) (by omega)
     have hg : (l.map lkC)[lo]? = some (lkC x):=by rw [List.getElem?_map,hx]; rfl
     have q2 : ¬ l.length ≤ lo:=by omega
     have q3 : (lo : Int) < l.length:=by omega
     have cc:=cmlS_eq x (lq x (List.mem_of_getElem? hx)) f t
     have cl:=cmL_eq x f t
     have hh : hasN l lo f t = lkIs f t x:=by simp only [hasN,hx]
     rw [hE,hh]
     generalize cmL x f t = cv at cc cl
     generalize lkIs f t x = bv at *
     obtain ⟨a1,a2,a3,q⟩:=x
     simp only [lkC] at hg cc
     clear hlt hz hh
     repeat' (first | intro (hb : _ = _) | refine ZV ?_ | refine ZB tm bsn_specs_ok ?_ | refine ZH ?_ ?_ | refine ZJ (by conv=>lhs; simp [q1,q2,q3,hg,cc,h4,cl]) ?_ | refine ZA ?_ ?_)
     all_goals (first | refine Yd ?_ | refine Ye ?_)
     all_goals (first | rfl | (simp; done) | (simp_all; done) | (simp_all; omega))
   · have q3 : ¬ (lo : Int) < l.length:=by omega
     have q4 : l[lo]? = none:=by simp; omega
     have hh : hasN l lo f t = false:=by simp only [hasN,q4]
     rw [hE,hh]
     clear hlt hz
     repeat' (first | intro (hb : _ = _) | refine ZV ?_ | refine ZB tm bsn_specs_ok ?_ | refine ZH ?_ ?_ | refine ZJ (by conv=>lhs; simp [q1,q3,h4]) ?_ | refine ZA ?_ ?_)
     all_goals (first | refine Yd ?_ | refine Ye ?_)
     all_goals (first | rfl | (simp; done) | (simp_all; done) | (simp_all; omega))
end
section
attribute [local simp] instA slice3A slice3C
theorem clones68_ok : FnC Tryz.prog 68 (cloneC 70 4 48) ∧ FnC Tryz.prog 69 (cloneC 46 45 536) := by
 refine ⟨FnC.ofV 68 (fn:=Tryz.f68) Tryz.func68 rfl (by kernel_rfl) fun args B r B' hS=>?_,FnC.ofV 69 (fn:=Tryz.f69) Tryz.func69 rfl (by kernel_rfl) fun args B r B' hS=>?_⟩
 all_goals
   unfold cloneC at hS
   split at hS
   · simp only [Option.some.injEq,Prod.mk.injEq] at hS
     obtain ⟨rfl,rfl⟩:=hS
     refine ⟨by simp, ?_⟩
     change V _ (RetM _ _ 0 _ _) _ _ ⟨8,[(0, .nils)],[]⟩
     repeat (first | refine YS ?_ | refine V.region tm no_specs rfl (by conv=>lhs; simp) fun _=>?_ | refine YL tm no_specs rfl (by conv=>lhs; simp) fun _=>?_)
     exact Ym [] []
   · rename_i s rows
     split at hS
     · rename_i hc
       obtain ⟨rfl,h1,h1',h2⟩:=hc
       simp only [Option.some.injEq,Prod.mk.injEq] at hS
       obtain ⟨rfl,rfl⟩:=hS
       refine ⟨by simp, ?_⟩
       change V _ (RetM _ _ 0 _ _) _ _ ⟨8,[(0, .list _ rows)],[]⟩
       cases rows with
       | nil =>
         refine V.nilCase (t:=0)  0 rfl rfl ?_ ?_
         · repeat (first | refine YU ?_ | refine V.region tm no_specs rfl (by conv=>lhs; simp) fun _=>?_ | refine YL tm no_specs rfl (by conv=>lhs; simp) fun _=>?_)
           refine YP (t:=2) 100 ?_
           repeat (first | refine YS ?_ | refine V.region tm no_specs rfl (by conv=>lhs; simp) fun _=>?_ | refine YL tm no_specs rfl (by conv=>lhs; simp) fun _=>?_)
           simp only [List.length_nil,rowB]
           exact Ym [100] [0]
         · repeat (first | refine YS ?_ | refine V.region tm no_specs rfl (by conv=>lhs; simp) fun _=>?_ | refine YL tm no_specs rfl (by conv=>lhs; simp) fun _=>?_)
           simp only [List.length_nil,rowB]
           exact Ym [96] [0]
       | cons x rows =>
         simp only [List.length_cons] at h1 h2 h1'
         try simp only [Nat.mul_one] at h1
         repeat (first | refine YS ?_ | refine V.region tm no_specs rfl (by conv=>lhs; simp [h1,h2,h1']) fun _=>?_ | refine YL tm no_specs rfl (by conv=>lhs; simp [h1,h2,h1']) fun _=>?_)
         simp only [List.length_cons,rowB]
         exact Ym [96] [0]
     · cases hS
   · rename_i len b
     split at hS
     · rename_i hc
       obtain ⟨hb,rfl,h1,h2⟩:=hc
       simp only [Option.some.injEq,Prod.mk.injEq] at hS
       obtain ⟨rfl,rfl⟩:=hS
       rw [okB_eq hb]
       generalize b.rows = rows at h1 h2 ⊢
       refine ⟨by simp, ?_⟩
       change V _ (RetM _ _ 1 _ _) _ _ ⟨8,[(0, .sl 0 0 0 rows.length)],[(0, { gen:=0,kind:=2,elem:=_,size:=_,inl:=true,rows })]⟩
       cases rows with
       | nil =>
         refine V.slNil (t:=0) 1 rfl rfl rfl rfl ?_ ?_
         · repeat (first | refine YU ?_ | refine V.region tm no_specs rfl (by conv=>lhs; simp) fun _=>?_ | refine YL tm no_specs rfl (by conv=>lhs; simp) fun _=>?_)
           refine YQ (t:=2) 100 ?_
           repeat (first | refine YS ?_ | refine V.region tm no_specs rfl (by conv=>lhs; simp) fun _=>?_ | refine YL tm no_specs rfl (by conv=>lhs; simp) fun _=>?_)
           simp only [List.length_nil,rowB]
           exact Ym [0,100] [0,0]
         · repeat (first | refine YS ?_ | refine V.region tm no_specs rfl (by conv=>lhs; simp) fun _=>?_ | refine YL tm no_specs rfl (by conv=>lhs; simp) fun _=>?_)
           simp only [List.length_nil,rowB]
           exact Ym [0,96] [0,0]
       | cons x rows =>
         simp only [List.length_cons] at h1 h2
         try simp only [Nat.mul_one] at h1
         repeat (first | refine YS ?_ | refine V.region tm no_specs rfl (by conv=>lhs; simp [h1,h2]) fun _=>?_ | refine YL tm no_specs rfl (by conv=>lhs; simp [h1,h2]) fun _=>?_)
         simp only [List.length_cons,rowB]
         exact Ym [0,96] [0,0]
     · cases hS
   · cases hS
theorem clone68_ok : FnC Tryz.prog 68 (cloneC 70 4 48) := clones68_ok.1
theorem clone69_ok : FnC Tryz.prog 69 (cloneC 46 45 536) := clones68_ok.2
attribute [-simp] mkv
attribute [local simp] mkv_hd hdA_cons hdA_ob hdA_ob'
theorem set_selfN {α : Type} {l : List α} {k : Nat} {x : α} (h : l[k]? = some x) : l.set k x = l := by
 apply List.ext_getElem?
 intro i
 rw [List.getElem?_set]
 split
 · rename_i e
   subst e
   obtain ⟨h1,h2⟩:=List.getElem?_eq_some_iff.1 h
   rw [if_pos h1,h]
 · rfl
def qB (g : Nat) (q : List Msg) : ABlk := { gen := g,kind := 2,elem := 46,size := 45,inl := true,rows := q.map Msg.v }
def oB (g : Nat) (b : Bool) (rows : List (List AV)) : ABlk := { gen := g,kind := 2,elem := 70,size := 4,inl := b,rows := rows }
def rowQ (x : Lk) (a : AV) : List AV := [.int .i64 x.fr, .int .i64 x.to, .bool x.cut,a]
theorem clnL (l : List Lk) (h : l.length ≤ 9000) : cloneC 70 4 48 [.list 4 (l.map lkC)] [] = some (.sl 0 0 0 l.length,[{ gen := 0,kind := 2,elem := 70,size := 4,inl := true,rows := l.map lkC }]) := by
 have e1 : l.length * 48 ≤ 140737488355328:=by omega
 have e2 : l.length ≤ 9223372036854775807:=by omega
 have e3 : l.length ≤ maxLen:=by simp only [maxLen]; omega
 simp [cloneC,e1,e2,e3,rowB]
theorem clnM (l : List Msg) (h : l.length ≤ 9000) : cloneC 46 45 536 [.list 45 (l.map Msg.v)] [] = some (.sl 0 0 0 l.length,[{ gen := 0,kind := 2,elem := 46,size := 45,inl := true,rows := l.map Msg.v }]) := by
 have e1 : l.length * 536 ≤ 140737488355328:=by omega
 have e2 : l.length ≤ 9223372036854775807:=by omega
 have e3 : l.length ≤ maxLen:=by simp only [maxLen]; omega
 simp [cloneC,e1,e2,e3,rowB]
noncomputable def cpn_specs : NL Spec := [(68,⟨3,cloneC 70 4 48⟩),(69,⟨3,cloneC 46 45 536⟩),(29,⟨1,cobS⟩)]
theorem cpn_specs_ok : ∀ p ∈ cpn_specs,FnC Tryz.prog p.1 p.2.fn := by
 simp only [cpn_specs,List.mem_cons,List.not_mem_nil,or_false]
 rintro p (rfl | rfl | rfl)
 · exact clone68_ok
 · exact clone69_ok
 · exact cob_ok
attribute [local simp] cpn_specs
noncomputable def cpnS : SpecFn := mkS2 (fun d : Nts => ([.list 4 (d.ls.map lkC)],[])) fun d => (.sl 0 0 0 d.ls.length,[oB 0 true (d.ls.map lkC)])
theorem cpnS_eq (d : Nts) : cpnS [.list 4 (d.ls.map lkC)] [] = some (.sl 0 0 0 d.ls.length,[oB 0 true (d.ls.map lkC)]) :=
 mkS2_eq (enc:=fun d : Nts=>([AV.list 4 (d.ls.map lkC)],([] : List ABlk))) (res:=fun d=>(.sl 0 0 0 d.ls.length,[oB 0 true (d.ls.map lkC)])) (fun x y h=>by
   obtain ⟨a,ha,hb⟩:=x
   obtain ⟨a',ha',hb'⟩:=y
   simp only [Prod.mk.injEq,List.cons.injEq,AV.list.injEq,true_and,and_true] at h
   cases lks_inj h
   rfl) d
noncomputable def cpqS (i : Nat) : SpecFn := mkS2 (fun d : {d : Nts × Lk // d.1.ls[i]? = some d.2} => ([.list 4 (d.1.1.ls.map lkC)],[])) fun d => (.sl 0 0 0 d.1.1.ls.length,[oB 0 false ((d.1.1.ls.map lkC).set i (rowQ d.1.2 (.sl 1 0 0 d.1.2.q.length))),qB 0 d.1.2.q])
theorem cpqS_eq (i : Nat) (d : Nts) (x : Lk) (h : d.ls[i]? = some x) : cpqS i [.list 4 (d.ls.map lkC)] [] = some (.sl 0 0 0 d.ls.length,[oB 0 false ((d.ls.map lkC).set i (rowQ x (.sl 1 0 0 x.q.length))),qB 0 x.q]) :=
 mkS2_eq (enc:=fun d : {d : Nts × Lk // d.1.ls[i]? = some d.2}=>([AV.list 4 (d.1.1.ls.map lkC)],([] : List ABlk))) (res:=fun d=>(.sl 0 0 0 d.1.1.ls.length,[oB 0 false ((d.1.1.ls.map lkC).set i (rowQ d.1.2 (.sl 1 0 0 d.1.2.q.length))),qB 0 d.1.2.q])) (fun x y h=>by
   obtain ⟨⟨⟨a,ha,hb⟩,b⟩,hx⟩:=x
   obtain ⟨⟨⟨a',ha',hb'⟩,b'⟩,hy⟩:=y
   simp only [Prod.mk.injEq,List.cons.injEq,AV.list.injEq,true_and,and_true] at h
   cases lks_inj h
   dsimp only at hx hy
   rw [hx] at hy
   cases hy
   rfl) ⟨(d,x),h⟩
theorem cpn_ok : FnC Tryz.prog 38 cpnS := by
 refine FnC.walkB 38 (fn:=Tryz.f38) Tryz.func38 rfl (by kernel_rfl) (fun x b hb=>by simp at hb) fun d=>?_
 obtain ⟨l,lh,lq⟩:=d
 change W _ (RetB _ _ 0 (.sl 0 0 0 l.length) [oB 0 true (l.map lkC)]) _ _ ⟨43,[(0, .list 4 (l.map lkC))],[]⟩
 have cap : l.length ≤ 9223372036854775807:=by omega
 have cc:=clnL l lh
 repeat' (first | intro (hb : _ = _) | refine ZV ?_ | refine ZB tm cpn_specs_ok ?_ | refine ZH ?_ ?_ | refine ZJ (by conv=>lhs; simp [cap,cc]) ?_ | refine ZA ?_ ?_)
 refine W.loop rfl (ι:={ p : Nat × NL ABlk // p.1 ≤ l.length ∧ lk p.2 144 = some (oB 1 true (l.map lkC)) })
   (fun p=>⟨43,[(3, .sl 144 1 0 l.length),(10, .int .i64 l.length),(11, .int .i64 (p.1.1 : Nat))],p.1.2⟩) (fun p=>l.length - p.1.1)
   ⟨(0,_),by simp,rfl⟩ (AS.le_of rfl ⟨rfl,rfl,rfl,trivial⟩ (fun _=>rfl)) ?_
 rintro ⟨⟨k,h⟩,hk,h1⟩
 dsimp only at hk h1 ⊢
 have h1':=h1
 simp only [oB] at h1
 by_cases hk2 : k = l.length
 · subst hk2
   have q1 : ¬ (l.length : Int) < l.length:=by omega
   repeat' (first | intro (hb : _ = _) | refine ZV ?_ | refine ZB tm cpn_specs_ok ?_ | refine ZH ?_ ?_ | refine ZJ (by conv=>lhs; simp [q1,h1]) ?_ | refine ZA ?_ ?_)
   exact RetB.raw [144] rfl (by conv=>lhs; simp) (by decide) (by simp) (by simp [h1,oB]) (by simp [List.idxOf?,List.findIdx?,List.findIdx?.go,h1])
 · obtain ⟨x,hx⟩:=get_lt (l:=l) (i:=k) (by omega)
   have hm : (l.map lkC)[k]? = some (lkC x):=by rw [List.getElem?_map,hx]; rfl
   have q1 : (k : Int) < l.length:=by omega
   have q2 : ¬ l.length ≤ k:=by omega
   have hw : IntKind.i64.wrap ((k : Int) + 1) = ((k + 1 : Nat) : Int):=w64 (by omega) (by omega)
   have hs:=set_selfN hm
   have hq:=lq x (List.mem_of_getElem? hx)
   obtain ⟨a,b,c,q⟩:=x
   have hq : q.length ≤ 9000:=hq
   have cm:=clnM q hq
   have capq : q.length ≤ 9223372036854775807:=by omega
   simp only [lkC] at hm hs
   repeat' (first | intro (hb : _ = _) | refine ZV ?_ | refine ZB tm cpn_specs_ok ?_ | refine ZH ?_ ?_ | refine ZJ (by conv=>lhs; simp [q1,q2,hm,h1,cm,capq]) ?_ | refine ZA ?_ ?_)
   obtain ⟨G,hG⟩ : ∃ G,((lk h 320).getD { }).gen + 1 = G:=⟨_,rfl⟩
   rw [hG]
   refine W.loop rfl (ι:={ p : Nat × NL ABlk // p.1 ≤ q.length ∧ lk p.2 144 = some (oB 1 true (l.map lkC)) ∧ lk p.2 320 = some (qB G q) })
     (fun p=>⟨43,[(3, .sl 144 1 0 l.length),(4, .int .i64 (k : Nat)),(5, .sl 320 G 0 q.length),(10, .int .i64 l.length),(11, .int .i64 (k : Nat)),(21, .int .i64 q.length),(22, .int .i64 (p.1.1 : Nat))],p.1.2⟩) (fun p=>q.length - p.1.1)
     ⟨(0,_),by simp,by simp [lk_st,h1'],by simp [lk_st,qB]⟩ (AS.le_of rfl ⟨rfl,rfl,rfl,rfl,rfl,rfl,rfl,trivial⟩ (fun _=>rfl)) ?_
   clear h1 h1' hG cm
   clear h
   rintro ⟨⟨j,h⟩,hj,h1,h2⟩
   dsimp only at hj h1 h2 ⊢
   have h1':=h1
   have h2':=h2
   simp only [oB] at h1
   simp only [qB] at h2
   by_cases hj2 : j = q.length
   · subst hj2
     have y1 : ¬ (q.length : Int) < q.length:=by omega
     repeat' (first | intro (hb : _ = _) | refine ZV ?_ | refine ZB (id:=7) tm cpn_specs_ok ?_ | refine ZH ?_ ?_ | refine ZJ (by conv=>lhs; simp [y1]) ?_ | refine ZA ?_ ?_)
     have tk : List.take q.length (q.map Msg.v) = q.map Msg.v:=List.take_of_length_le (by simp)
     refine W.frz 5 rfl (by conv=>lhs; simp [frqT,frqV,frqVs,frqL,frq1,frz1,h2,tk]) ?_
     repeat' (first | intro (hb : _ = _) | refine ZV ?_ | refine ZB tm cpn_specs_ok ?_ | refine ZH ?_ ?_ | refine ZJ (by conv=>lhs; simp [h1,hs,q1,q2,hm,hw]) ?_ | refine ZA ?_ ?_)
     exact ⟨⟨(k + 1,_),by dsimp only; omega,by simp [lk_st,h1,oB]⟩,by dsimp only; omega,AS.le_of rfl ⟨rfl,rfl,rfl,trivial⟩ (fun _=>rfl)⟩
   · obtain ⟨m,hxm⟩:=get_lt (l:=q) (i:=j) (by omega)
     have hmm : (q.map Msg.v)[j]? = some m.v:=by rw [List.getElem?_map,hxm]; rfl
     have y1 : (j : Int) < q.length:=by omega
     have y2 : ¬ q.length ≤ j:=by omega
     have hw2 : IntKind.i64.wrap ((j : Int) + 1) = ((j + 1 : Nat) : Int):=w64 (by omega) (by omega)
     have hs2:=set_selfN hmm
     have co:=cobS_eq m.obj
     obtain ⟨b1,b2,b3,b4,b5,o,b6,b7,b8,b9⟩:=m
     simp only [Msg.v] at hmm hs2 co
     repeat' (first | intro (hb : _ = _) | refine ZV ?_ | refine ZB tm cpn_specs_ok ?_ | refine ZH ?_ ?_ | refine ZJ (by conv=>lhs; simp [y1,y2,hmm,h2,co,hs2,hw2]) ?_ | refine ZA ?_ ?_)
     exact ⟨⟨(j + 1,_),by dsimp only; omega,by simp [lk_st,h1'],by simp [lk_st,qB]⟩,by dsimp only; omega,AS.le_of rfl ⟨rfl,rfl,rfl,rfl,rfl,rfl,rfl,trivial⟩ (fun _=>rfl)⟩
theorem renL_lkC (f : Nat → Nat → Option (Nat × Nat)) (x : Lk) : renL f (lkC x) = lkC x := by simp [renL,lkC,AV.ren]
theorem renR_lkC (f : Nat → Nat → Option (Nat × Nat)) (l : List Lk) : (l.map lkC).map (renL f) = l.map lkC := by
 rw [List.map_map]
 apply List.map_congr_left
 intro x _
 exact renL_lkC f x
theorem renR_comp (f : Nat → Nat → Option (Nat × Nat)) (l : List Lk) : List.map (renL f ∘ lkC) l = l.map lkC := by
 have:=renR_lkC f l
 rwa [List.map_map] at this
theorem cpq_ok (i0 : Nat) : FnC Tryz.prog 38 (cpqS i0) := by
 refine FnC.walkB 38 (fn:=Tryz.f38) Tryz.func38 rfl (by kernel_rfl) (fun x b hb=>by simp at hb) fun d=>?_
 obtain ⟨⟨⟨l,lh,lq⟩,x0⟩,hx0⟩:=d
 dsimp only at hx0
 have hi0 : i0 < l.length:=(List.getElem?_eq_some_iff.1 hx0).1
 change W _ (RetB _ _ 0 (.sl 0 0 0 l.length) [oB 0 false ((l.map lkC).set i0 (rowQ x0 (.sl 1 0 0 x0.q.length))),qB 0 x0.q]) _ _ ⟨43,[(0, .list 4 (l.map lkC))],[]⟩
 have cap : l.length ≤ 9223372036854775807:=by omega
 have cc:=clnL l lh
 repeat' (first | intro (hb : _ = _) | refine ZV ?_ | refine ZB tm cpn_specs_ok ?_ | refine ZH ?_ ?_ | refine ZJ (by conv=>lhs; simp [cap,cc]) ?_ | refine ZA ?_ ?_)
 refine W.setI 144 false rfl rfl (fun c=>by cases c) ?_
 refine W.loop rfl (ι:={ p : Nat × NL ABlk × List (List AV) // p.1 ≤ l.length ∧ lk p.2.1 144 = some (oB 1 false p.2.2) ∧ ((p.1 ≤ i0 ∧ p.2.2 = l.map lkC ∧ lk p.2.1 7 = none) ∨ (i0 < p.1 ∧ p.2.2 = (l.map lkC).set i0 (rowQ x0 (.sl 7 0 0 x0.q.length)) ∧ lk p.2.1 7 = some (qB 0 x0.q))) })
   (fun p=>⟨43,[(3, .sl 144 1 0 l.length),(10, .int .i64 l.length),(11, .int .i64 (p.1.1 : Nat))],p.1.2.1⟩) (fun p=>l.length - p.1.1)
   ⟨(0,_,l.map lkC),by simp,rfl, .inl ⟨Nat.zero_le _,rfl,rfl⟩⟩ (AS.le_of rfl ⟨rfl,rfl,rfl,trivial⟩ (fun _=>rfl)) ?_
 rintro ⟨⟨k,h,R⟩,hk,h1,h7⟩
 dsimp only at hk h1 h7 ⊢
 by_cases hk2 : k = l.length
 · subst hk2
   rcases h7 with ⟨c,_⟩ | ⟨-,hR,h7⟩
   · omega
   subst hR
   have q1 : ¬ (l.length : Int) < l.length:=by omega
   simp only [oB] at h1
   simp only [qB] at h7
   repeat' (first | intro (hb : _ = _) | refine ZV ?_ | refine ZB tm cpn_specs_ok ?_ | refine ZH ?_ ?_ | refine ZJ (by conv=>lhs; simp [q1,h1]) ?_ | refine ZA ?_ ?_)
   exact RetB.raw [144,7] rfl (by conv=>lhs; simp) (by decide) (by simp) (by simp [h1,h7,oB,qB,List.map_set,renR_comp,rowQ,renL,AV.ren,List.idxOf?,List.findIdx?,List.findIdx?.go]) (by simp [List.idxOf?,List.findIdx?,List.findIdx?.go,h1])
 · obtain ⟨x,hx⟩:=get_lt (l:=l) (i:=k) (by omega)
   have hmR : k ≠ i0 ∨ (k = i0 ∧ x = x0):=by
     by_cases e : k = i0
     · subst e
       rw [hx] at hx0
       cases hx0
       exact .inr ⟨rfl,rfl⟩
     · exact .inl e
   have hm : R[k]? = some (lkC x):=by
     have h0 : (l.map lkC)[k]? = some (lkC x):=by rw [List.getElem?_map,hx]; rfl
     rcases h7 with ⟨_,rfl,_⟩ | ⟨c,rfl,_⟩
     · exact h0
     · rw [List.getElem?_set,if_neg (by omega)]
       exact h0
   have hRl : R.length = l.length:=by rcases h7 with ⟨_,rfl,_⟩ | ⟨c,rfl,_⟩ <;> simp
   have q1 : (k : Int) < l.length:=by omega
   have q2 : ¬ l.length ≤ k:=by omega
   have hw : IntKind.i64.wrap ((k : Int) + 1) = ((k + 1 : Nat) : Int):=w64 (by omega) (by omega)
   have hs:=set_selfN hm
   have hq:=lq x (List.mem_of_getElem? hx)
   obtain ⟨a,b,c,q⟩:=x
   have hq : q.length ≤ 9000:=hq
   have cm:=clnM q hq
   have capq : q.length ≤ 9223372036854775807:=by omega
   simp only [lkC] at hm hs
   have h1':=h1
   simp only [oB] at h1
   repeat' (first | intro (hb : _ = _) | refine ZV ?_ | refine ZB tm cpn_specs_ok ?_ | refine ZH ?_ ?_ | refine ZJ (by conv=>lhs; simp [q1,q2,hm,h1,cm,capq,hRl]) ?_ | refine ZA ?_ ?_)
   obtain ⟨G,hG⟩ : ∃ G,((lk h 320).getD { }).gen + 1 = G:=⟨_,rfl⟩
   rw [hG]
   refine W.loop rfl (ι:={ p : Nat × NL ABlk // p.1 ≤ q.length ∧ lk p.2 144 = some (oB 1 false R) ∧ lk p.2 320 = some (qB G q) ∧ lk p.2 7 = lk h 7 })
     (fun p=>⟨43,[(3, .sl 144 1 0 l.length),(4, .int .i64 (k : Nat)),(5, .sl 320 G 0 q.length),(10, .int .i64 l.length),(11, .int .i64 (k : Nat)),(21, .int .i64 q.length),(22, .int .i64 (p.1.1 : Nat))],p.1.2⟩) (fun p=>q.length - p.1.1)
     ⟨(0,_),by simp,by simp [lk_st,h1'],by simp [lk_st,qB],by simp [lk_st]⟩ (AS.le_of rfl ⟨rfl,rfl,rfl,rfl,rfl,rfl,rfl,trivial⟩ (fun _=>rfl)) ?_
   clear h1 h1' hG cm
   generalize lk h 7 = V7 at *
   clear h
   rintro ⟨⟨j,h⟩,hj,h1,h2,h3⟩
   dsimp only at hj h1 h2 h3 ⊢
   have h1':=h1
   have h2':=h2
   simp only [oB] at h1
   simp only [qB] at h2
   by_cases hj2 : j = q.length
   · subst hj2
     have y1 : ¬ (q.length : Int) < q.length:=by omega
     repeat' (first | intro (hb : _ = _) | refine ZV ?_ | refine ZB (id:=7) tm cpn_specs_ok ?_ | refine ZH ?_ ?_ | refine ZJ (by conv=>lhs; simp [y1]) ?_ | refine ZA ?_ ?_)
     rcases hmR with hne | ⟨rfl,hx⟩
     · have tk : List.take q.length (q.map Msg.v) = q.map Msg.v:=List.take_of_length_le (by simp)
       refine W.frz 5 rfl (by conv=>lhs; simp [frqT,frqV,frqVs,frqL,frq1,frz1,h2,tk]) ?_
       repeat' (first | intro (hb : _ = _) | refine ZV ?_ | refine ZB tm cpn_specs_ok ?_ | refine ZH ?_ ?_ | refine ZJ (by conv=>lhs; simp [h1,hs,q1,q2,hm,hw,hRl]) ?_ | refine ZA ?_ ?_)
       exact ⟨⟨(k + 1,_,R),by dsimp only; omega,by simp [lk_st,h1,oB],by
         simp only [lk_st,h3]
         rcases h7 with ⟨p1,p2,p3⟩ | ⟨p1,p2,p3⟩
         · exact .inl ⟨by omega,p2,by simp [p3]⟩
         · exact .inr ⟨by omega,p2,by simp [p3]⟩⟩,by dsimp only; omega,AS.le_of rfl ⟨rfl,rfl,rfl,trivial⟩ (fun _=>rfl)⟩
     · rcases h7 with ⟨p1,p2,p3⟩ | ⟨p1,p2,p3⟩
       · rw [p3] at h3
         refine W.mv 5 7 rfl h2 rfl rfl h3 ?_
         subst p2
         repeat' (first | intro (hb : _ = _) | refine ZV ?_ | refine ZB tm cpn_specs_ok ?_ | refine ZH ?_ ?_ | refine ZJ (by conv=>lhs; simp [h1,q1,q2,hm,hw,hRl]) ?_ | refine ZA ?_ ?_)
         exact ⟨⟨(k + 1,_,(l.map lkC).set k (rowQ x0 (.sl 7 0 0 x0.q.length))),by dsimp only; omega,by simp [lk_st,lk,oB,rowQ, ← hx], .inr ⟨by dsimp only; omega,rfl,by simp [lk_st,lk,qB, ← hx]⟩⟩,by dsimp only; omega,AS.le_of rfl ⟨rfl,rfl,rfl,trivial⟩ (fun _=>rfl)⟩
       · omega
   · obtain ⟨m,hxm⟩:=get_lt (l:=q) (i:=j) (by omega)
     have hmm : (q.map Msg.v)[j]? = some m.v:=by rw [List.getElem?_map,hxm]; rfl
     have y1 : (j : Int) < q.length:=by omega
     have y2 : ¬ q.length ≤ j:=by omega
     have hw2 : IntKind.i64.wrap ((j : Int) + 1) = ((j + 1 : Nat) : Int):=w64 (by omega) (by omega)
     have hs2:=set_selfN hmm
     have co:=cobS_eq m.obj
     obtain ⟨b1,b2,b3,b4,b5,o,b6,b7,b8,b9⟩:=m
     simp only [Msg.v] at hmm hs2 co
     repeat' (first | intro (hb : _ = _) | refine ZV ?_ | refine ZB tm cpn_specs_ok ?_ | refine ZH ?_ ?_ | refine ZJ (by conv=>lhs; simp [y1,y2,hmm,h2,co,hs2,hw2]) ?_ | refine ZA ?_ ?_)
     exact ⟨⟨(j + 1,_),by dsimp only; omega,by simp [lk_st,h1'],by simp [lk_st,qB],by simp [lk_st,h3]⟩,by dsimp only; omega,AS.le_of rfl ⟨rfl,rfl,rfl,rfl,rfl,rfl,rfl,trivial⟩ (fun _=>rfl)⟩
end
end Go.Abs.Nx
