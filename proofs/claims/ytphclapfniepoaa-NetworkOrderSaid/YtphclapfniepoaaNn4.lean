/- The program's networks: valid ones, finding. Conditions: none. -/
import Derived.Test.YtphclapfniepoaaNn3
import Derived.Test.YtphclapfniepoaaNn1
import Derived.Test.YtphclapfniepoaaNn2
namespace Go.Abs.Nn
open Go Go.Proofs Go.Abs
set_option maxRecDepth 100000
set_option maxHeartbeats 4000000
set_option linter.unusedSimpArgs false
set_option linter.unusedVariables false
section
attribute [local simp] instA slice3A slice3C
attribute [-simp] mkv
attribute [local simp] mkv_hd hdA_cons hdA_ob hdA_ob'
theorem pnode_ok : FnC Try.prog 23 (boS okN) := by
 refine FnC.walk 23 (fn:=Try.f23) Try.func23 rfl (by kernel_rfl) fun m=>?_
 change W _ (Ret _ _ (.bool (okN m)) []) _ _ ⟨9,[(0, .int .i64 m)],[]⟩
 repeat' (first | intro (hb : _ = _) | refine ZV ?_ | refine ZB tm no_specs ?_ | refine ZH ?_ ?_ | refine ZJ (by conv=>lhs; simp) ?_ | refine ZA ?_ ?_)
 all_goals (first | refine Yd ?_ | refine Ye ?_)
 all_goals (first | rfl | (simp [okN]; done) | (simp_all [okN]; done) | (simp_all [okN]; omega))
def ixmF (p : Msg → Bool) : Nat → List Msg → Int
 | _,[] => -1
 | k,x :: r=>if p x then (k : Int) else ixmF p (k + 1) r
theorem ixmF_drop {p : Msg → Bool} {l : List Msg} {k : Nat} {x : Msg} (h : l[k]? = some x) : ixmF p k (l.drop k) = if p x then (k : Int) else ixmF p (k + 1) (l.drop (k + 1)) := by
 obtain ⟨hk,rfl⟩:=List.getElem?_eq_some_iff.1 h
 rw [List.drop_eq_getElem_cons hk,ixmF]
theorem ixmF_end {p : Msg → Bool} {l : List Msg} : ixmF p l.length (l.drop l.length) = -1 := by rw [List.drop_length]; rfl
theorem ixmF_any {p : Msg → Bool} : ∀ {k : Nat} {l : List Msg},decide (0 ≤ ixmF p k l) = l.any p
 | k,[]=>by simp [ixmF]
 | k,x :: r=>by
   rw [ixmF,List.any_cons]
   cases hp : p x
   · simpa using ixmF_any (p:=p) (k:=k + 1) (l:=r)
   · simp
structure ixmV where
 F : FuncId
 p : Msg → Bool
 S : SpecFn
 ok : FnC Try.prog F S
 eq : ∀ x,S [.agg x.v] [] = some (.bool (p x),[])
structure ixmW where
 F : FuncId
 ne : (F = 66) = False
 ne2 : (66 = F) = False
 p : Msg → Bool
 E : Nat
 s : Nat
 row : List AV
 refs : refsL row = []
 ren : ∀ f,renL f row = row
 S : SpecFn
 ok : FnC Try.prog F S
 eq : ∀ x,S [.agg x.v, .ptr 0 0 0 0] [{ gen:=0,kind:=2,elem:=E,size:=s,inl:=false,rows:=[row] }] = some (.bool (p x),[{ gen:=0,kind:=2,elem:=E,size:=s,inl:=false,rows:=[row] }])
def ixmW.b (v : ixmW) : ABlk := { gen := 0,kind := 2,elem := v.E,size := v.s,inl := false,rows := [v.row] }
theorem ixmC_inj {l m : List Msg} (h : l.map Msg.v = m.map Msg.v) : l = m := map_inj' (fun a b h => (msgv1_inj h)) h
noncomputable def ixm1 (v : ixmW) : SpecFn := mkS2 (fun l : {l : List Msg // l.length ≤ 9100} => ([.list 45 (l.1.map Msg.v), .fn (.func v.F) [] [.ptr 0 0 0 0]],[v.b])) fun l => (.int .i64 (ixmF v.p 0 l.1),[v.b])
theorem ixm1_eq (v : ixmW) (l : List Msg) (h : l.length ≤ 9100) : ixm1 v [.list 45 (l.map Msg.v), .fn (.func v.F) [] [.ptr 0 0 0 0]] [v.b] = some (.int .i64 (ixmF v.p 0 l),[v.b]) :=
 mkS2_eq (enc:=fun l : {l : List Msg // l.length ≤ 9100}=>([AV.list 45 (l.1.map Msg.v), .fn (.func v.F) [] [.ptr 0 0 0 0]],[v.b])) (res:=fun l=>(AV.int .i64 (ixmF v.p 0 l.1),[v.b])) (fun x y h=>by
   simp only [Prod.mk.injEq,List.cons.injEq,AV.list.injEq,true_and,and_true] at h
   rw [ixmC_inj h]) ⟨l,h⟩
theorem ixm1_ok (v : ixmW) : FnC Try.prog 66 (ixm1 v) := by
 obtain ⟨G,ne,ne2,p,E,s,row,rf,rn,S,ok,eq⟩:=v
 have sp : ∀ q ∈ ([(G,⟨3,S⟩)] : NL Spec),FnC Try.prog q.1 q.2.fn:=by
   simp only [List.mem_cons,List.not_mem_nil,or_false]
   rintro q rfl
   exact ok
 refine FnC.walkB 66 (fn:=Try.f66) Try.func66 rfl (by kernel_rfl) (fun x b hb=>by simp at hb; rw [hb]; rfl) fun x=>?_
 obtain ⟨l,hl⟩:=x
 obtain ⟨b,hB⟩ : ∃ b : ABlk,b = { gen:=0,kind:=2,elem:=E,size:=s,inl:=false,rows:=[row] }:=⟨_,rfl⟩
 change W _ (RetB _ _ 1 (.int .i64 (ixmF p 0 l)) [{ gen:=0,kind:=2,elem:=E,size:=s,inl:=false,rows:=[row] }]) _ _ ⟨19,[(0, .list 45 (l.map Msg.v)),(1, .fn (.func G) [] [.ptr 0 0 0 0])],[(0, { gen:=0,kind:=2,elem:=E,size:=s,inl:=false,rows:=[row] })]⟩
 have cap : l.length ≤ 9223372036854775807:=by omega
 repeat' (first | intro (hb : _ = _) | refine ZV ?_ | refine ZB tm sp ?_ | refine ZH ?_ ?_ | refine ZJ (by conv=>lhs; simp [cap]) ?_ | refine ZA ?_ ?_)
 refine W.loop rfl (ι:={ q : Nat × NL ABlk // q.1 ≤ l.length ∧ ixmF p 0 l = ixmF p q.1 (l.drop q.1) ∧ lk q.2 0 = some { gen:=0,kind:=2,elem:=E,size:=s,inl:=false,rows:=[row] } })
   (fun q=>⟨19,[(0, .list 45 (l.map Msg.v)),(1, .fn (.func G) [] [.ptr 0 0 0 0]),(7, .int .i64 l.length),(8, .int .i64 (q.1.1 : Nat))],q.1.2⟩) (fun q=>l.length - q.1.1)
   ⟨(0,_),by simp,rfl,rfl⟩ (AS.le_of rfl ⟨rfl,rfl,rfl,rfl,trivial⟩ (fun _=>rfl)) ?_
 rintro ⟨⟨k,h⟩,hk,hf,h1⟩
 dsimp only at hk hf h1 ⊢
 by_cases hk2 : k = l.length
 · subst hk2
   rw [ixmF_end] at hf
   rw [hf]
   repeat' (first | intro (hb : _ = _) | refine ZV ?_ | refine ZB tm sp ?_ | refine ZH ?_ ?_ | refine ZJ (by conv=>lhs; simp) ?_ | refine ZA ?_ ?_)
   exact RetB.raw [0] rfl (by conv=>lhs; simp) (by decide) (by simp [h1]) (by simp [h1,rn]) (by simp)
 · have hlt : k < l.length:=by omega
   obtain ⟨m,hr⟩:=get_lt hlt
   have hm : (l.map Msg.v)[k]? = some (Msg.v m):=by rw [List.getElem?_map,hr]; rfl
   have q1 : (k : Int) < l.length:=by omega
   have q2 : ¬ l.length ≤ k:=by omega
   have hw : IntKind.i64.wrap ((k : Int) + 1) = ((k + 1 : Nat) : Int):=w64 (by omega) (by omega)
   rw [ixmF_drop hr] at hf
   have cf:=eq m
   clear hlt hk2
   simp only [Msg.v] at cf hm
   cases ho : p m with
   | true =>
     rw [if_pos ho] at hf
     rw [hf]
     rw [ho] at cf
     repeat' (first | intro (hb : _ = _) | refine ZV ?_ | refine ZB tm sp ?_ | refine ZH ?_ ?_ | refine ZJ (by conv=>lhs; simp [q1,q2,hm,cf,h1,rf,rn,maxLen]) ?_ | refine ZA ?_ ?_)
     exact RetB.raw [0] rfl (by conv=>lhs; simp) (by decide) (by simp) (by simp [rn]) (by simp)
   | false =>
     rw [if_neg (by simp [ho])] at hf
     rw [ho] at cf
     repeat' (first | intro (hb : _ = _) | refine ZV ?_ | refine ZB tm sp ?_ | refine ZH ?_ ?_ | refine ZJ (by conv=>lhs; simp [q1,q2,hm,cf,hw,h1,rf,rn,maxLen]) ?_ | refine ZA ?_ ?_)
     exact ⟨⟨(k + 1,_),by dsimp only; omega,hf,by simp [lk_st]⟩,by dsimp only; omega,AS.le_of rfl ⟨rfl,rfl,rfl,rfl,trivial⟩ (fun _=>rfl)⟩
noncomputable def ixmc1 (v : ixmW) : SpecFn := mkS2 (fun l : {l : List Msg // l.length ≤ 9100} => ([.list 45 (l.1.map Msg.v), .fn (.func v.F) [] [.ptr 0 0 0 0]],[v.b])) fun l => (.bool (l.1.any v.p),[v.b])
theorem ixmc1_eq (v : ixmW) (l : List Msg) (h : l.length ≤ 9100) : ixmc1 v [.list 45 (l.map Msg.v), .fn (.func v.F) [] [.ptr 0 0 0 0]] [v.b] = some (.bool (l.any v.p),[v.b]) :=
 mkS2_eq (enc:=fun l : {l : List Msg // l.length ≤ 9100}=>([AV.list 45 (l.1.map Msg.v), .fn (.func v.F) [] [.ptr 0 0 0 0]],[v.b])) (res:=fun l=>(AV.bool (l.1.any v.p),[v.b])) (fun x y h=>by
   simp only [Prod.mk.injEq,List.cons.injEq,AV.list.injEq,true_and,and_true] at h
   rw [ixmC_inj h]) ⟨l,h⟩
theorem ixmc1_ok (v : ixmW) : FnC Try.prog 34 (ixmc1 v) := by
 have sp : ∀ q ∈ ([(66,⟨3,ixm1 v⟩)] : NL Spec),FnC Try.prog q.1 q.2.fn:=by
   simp only [List.mem_cons,List.not_mem_nil,or_false]
   rintro q rfl
   exact ixm1_ok v
 refine FnC.walkB 34 (fn:=Try.f34) Try.func34 rfl (by kernel_rfl) (fun x b hb=>by simp at hb; rw [hb]; rfl) fun x=>?_
 obtain ⟨l,hl⟩:=x
 have cf:=ixm1_eq v l hl
 obtain ⟨G,ne,ne2,p,E,s,row,rf,rn,S,ok,eq⟩:=v
 simp only [ixmW.b] at cf
 change W _ (RetB _ _ 1 (.bool (l.any p)) [{ gen:=0,kind:=2,elem:=E,size:=s,inl:=false,rows:=[row] }]) _ _ ⟨9,[(0, .list 45 (l.map Msg.v)),(1, .fn (.func G) [] [.ptr 0 0 0 0])],[(0, { gen:=0,kind:=2,elem:=E,size:=s,inl:=false,rows:=[row] })]⟩
 repeat' (first | intro (hb : _ = _) | refine ZV ?_ | refine ZB tm sp ?_ | refine ZH ?_ ?_ | refine ZJ (by conv=>lhs; simp [cf,rf,rn]) ?_ | refine ZA ?_ ?_)
 exact RetB.raw [0] rfl (by conv=>lhs; simp) (by decide) (by simp) (by simp [rn]) (by simp [ixmF_any])
def lkBox (x : Lk) : ABlk := { gen := 0,kind := 2,elem := 74,size := 4,inl := false,rows := [lkC x] }
def strB (x : Lk) (m : Msg) : Bool := m.fr != x.fr || m.to != x.to
noncomputable def sxkS (x : Lk) : SpecFn := mkS2 (fun m : Msg => ([.agg m.v, .ptr 0 0 0 0],[lkBox x])) fun m => (.bool (strB x m),[lkBox x])
theorem sxkS_eq (x : Lk) (m : Msg) : sxkS x [.agg m.v, .ptr 0 0 0 0] [lkBox x] = some (.bool (strB x m),[lkBox x]) :=
 mkS2_eq (enc:=fun m : Msg=>([AV.agg m.v, .ptr 0 0 0 0],[lkBox x])) (res:=fun m=>(AV.bool (strB x m),[lkBox x])) (fun a b h=>by
   simp only [Prod.mk.injEq,List.cons.injEq,AV.agg.injEq,and_true] at h
   rw [msgv1_inj h]) m
theorem sxk_ok (x : Lk) : FnC Try.prog 33 (sxkS x) := by
 refine FnC.walkB 33 (fn:=Try.f33) Try.func33 rfl (by kernel_rfl) (fun m b hb=>by simp at hb; rw [hb]; rfl) fun m=>?_
 obtain ⟨a,b,c,q⟩:=x
 obtain ⟨b1,b2,b3,b4,b5,o,b6,b7,b8,b9⟩:=m
 change W _ (RetB _ _ 1 (.bool (b1 != a || b2 != b)) [lkBox ⟨a,b,c,q⟩]) _ _ ⟨16,[(0, .agg (.int .i64 b1 :: .int .i64 b2 :: .int .i64 b3 :: .int .u64 b4 :: .int .i64 b5 :: (o.cells ++ [.int .u64 b6, .int .i64 b7, .int .u64 b8, .int .i64 b9]))),(1, .ptr 0 0 0 0)],[(0,lkBox ⟨a,b,c,q⟩)]⟩
 repeat' (first | intro (hb : _ = _) | refine ZV ?_ | refine ZB tm no_specs ?_ | refine ZH ?_ ?_ | refine ZJ (by conv=>lhs; simp [lkBox,lkC]) ?_ | refine ZA ?_ ?_)
 all_goals (refine RetB.raw [0] rfl (by conv=>lhs; simp) (by decide) (by simp) (by simp [renL,AV.ren,lkBox,lkC]) (by simp_all))
noncomputable def sxkV (x : Lk) : ixmW := ⟨33,by simp,by simp,strB x,74,4,lkC x,by simp [lkC,refsL,AV.refs],fun f => renL_lkC f x,sxkS x,sxk_ok x,sxkS_eq x⟩
def pvK (l : List Lk) (k : Nat) (f t : Int) : Bool :=
 match k with
 | 0=>true
 | i + 1=>match l[i]? with
   | some s=>befB s f t
   | none=>true
theorem str_all (x : Lk) : (x.q.any (strB x)) = !(x.q.all fun m => m.fr == x.fr && m.to == x.to) := by
 rw [List.not_all_eq_any_not]
 congr 1
 funext m
 simp only [strB,Bool.not_and,bne]
theorem vap2_ok : FnC Try.prog 15 vkS := by
 refine FnC.walk 15 (fn:=Try.f15) Try.func15 rfl (by kernel_rfl) fun d=>?_
 obtain ⟨l,hl,he⟩:=d
 change W _ (Ret _ _ (.bool (validK l)) []) _ _ ⟨66,[(0, .agg [.list 4 (l.map lkC)])],[]⟩
 have cap : l.length ≤ 9223372036854775807:=by omega
 repeat' (first | intro (hb : _ = _) | refine ZV ?_ | refine ZB tm no_specs ?_ | refine ZH ?_ ?_ | refine ZJ (by conv=>lhs; simp [cap]) ?_ | refine ZA ?_ ?_)
 refine W.loop rfl (ι:={ q : Nat × NL ABlk // q.1 ≤ l.length ∧ (∀ j,j < q.1 → goodK l j = true) ∧ lk q.2 32 = some { gen:=1,kind:=2,elem:=26,size:=1,inl:=false,rows:=[[.list 4 (l.map lkC)]] } })
   (fun q=>⟨66,[(1, .ptr 32 1 0 0),(7, .list 4 (l.map lkC)),(8, .int .i64 l.length),(9, .int .i64 (q.1.1 : Nat))],q.1.2⟩) (fun q=>l.length - q.1.1)
   ⟨(0,_),by simp,fun j hj=>absurd hj (by simp),rfl⟩ (AS.le_of rfl ⟨rfl,rfl,rfl,rfl,trivial⟩ (fun _=>rfl)) ?_
 rintro ⟨⟨k,h⟩,hk,hg,h1⟩
 dsimp only at hk hg h1 ⊢
 by_cases hk2 : k = l.length
 · subst hk2
   rw [validK_yes hg]
   have q1 : ¬ (l.length : Int) < l.length:=by omega
   repeat' (first | intro (hb : _ = _) | refine ZV ?_ | refine ZB tm no_specs ?_ | refine ZH ?_ ?_ | refine ZJ (by conv=>lhs; simp [q1]) ?_ | refine ZA ?_ ?_)
   all_goals (first | refine Yd ?_ | refine Ye ?_)
   all_goals (first | rfl | (simp; done) | (simp_all; done) | (simp_all; omega))
 · have hlt : k < l.length:=by omega
   obtain ⟨x,hr⟩:=get_lt hlt
   have hm : (l.map lkC)[k]? = some (lkC x):=by rw [List.getElem?_map,hr]; rfl
   have q1 : (k : Int) < l.length:=by omega
   have q2 : ¬ l.length ≤ k:=by omega
   have hw : IntKind.i64.wrap ((k : Int) + 1) = ((k + 1 : Nat) : Int):=w64 (by omega) (by omega)
   have hqb : x.q.length ≤ 9000:=he _ (List.mem_of_getElem? hr)
   have cq : x.q.length ≤ 9223372036854775807:=by omega
   have n1:=boS_eq okN x.fr
   have n2:=boS_eq okN x.to
   have cs:=ixmc1_eq (sxkV x) x.q (by omega)
   have sp : ∀ p ∈ ([(23,⟨1,boS okN⟩),(35,⟨1,cmlS⟩),(34,⟨3,ixmc1 (sxkV x)⟩)] : NL Spec),FnC Try.prog p.1 p.2.fn:=by
     simp only [List.mem_cons,List.not_mem_nil,or_false]
     rintro p (rfl | rfl | rfl)
     · exact pnode_ok
     · exact cml_ok
     · exact ixmc1_ok (sxkV x)
   change ixmc1 (sxkV x) [.list 45 (x.q.map Msg.v), .fn (.func 33) [] [.ptr 0 0 0 0]] [{ gen:=0,kind:=2,elem:=74,size:=4,inl:=false,rows:=[lkC x] }] = some (.bool (x.q.any (strB x)),[{ gen:=0,kind:=2,elem:=74,size:=4,inl:=false,rows:=[lkC x] }]) at cs
   rw [str_all] at cs
   have hgk : ∀ z,z = (lkB x && (x.q.all (fun m=>m.fr == x.fr && m.to == x.to))) → z = false → goodK l k = false:=fun z hz h0=>by
     rw [h0] at hz
     unfold goodK
     rw [hr]
     dsimp only
     rw [← Bool.and_assoc, ← hz,Bool.false_and]
   obtain ⟨b3,hb3⟩ : ∃ b,(x.q.all fun m=>m.fr == x.fr && m.to == x.to) = b:=⟨_,rfl⟩
   obtain ⟨e0,he0⟩ : ∃ b,((x.q.length : Int) == 0) = b:=⟨_,rfl⟩
   have he0' : x.q.isEmpty = e0:=by
     rw [← he0]
     cases x.q with
     | nil=>rfl
     | cons a r=>simp; omega
   have hlb : lkB x = (okN x.fr && (okN x.to && (decide (x.q.length ≤ 4096) && (x.cut || !e0)))):=by rw [← he0']; rfl
   rw [hb3] at cs hgk
   rw [hlb] at hgk
   have hgo : (lkB x && b3) = true → goodK l k = pvK l k x.fr x.to:=fun hz=>by
     unfold goodK
     rw [hr]
     dsimp only
     rw [hb3, ← Bool.and_assoc,hz,Bool.true_and]
     rfl
   rw [hlb] at hgo
   clear hlb he0' hb3
   obtain ⟨a,b,c,q⟩:=x
   simp only [lkC] at hm cs
   dsimp only at *
   generalize okN a = x1 at *
   generalize okN b = x2 at *
   have bad : ∀ (hx : (x1 && (x2 && (decide (q.length ≤ 4096) && (c || !e0))) && b3) = false),validK l = false:=fun hx=>validK_no hlt (hgk _ rfl hx)
   by_cases h3 : q.length ≤ 4096
   · have c3 : ¬ (4096 : Int) < q.length:=by omega
     rw [decide_eq_true h3] at bad hgo
     cases x1
     · rw [bad (by simp)]
       repeat' (first | intro (hb : _ = _) | refine ZV ?_ | refine ZB tm sp ?_ | refine ZH ?_ ?_ | refine ZJ (by conv=>lhs; simp [q1,q2,hm,n1,n2,cq,c3,cs,he0]) ?_ | refine ZA ?_ ?_)
       all_goals (first | refine Yd ?_ | refine Ye ?_)
       all_goals (first | rfl | (simp; done) | (simp_all; done) | (simp_all; omega))
     cases x2
     · rw [bad (by simp)]
       repeat' (first | intro (hb : _ = _) | refine ZV ?_ | refine ZB tm sp ?_ | refine ZH ?_ ?_ | refine ZJ (by conv=>lhs; simp [q1,q2,hm,n1,n2,cq,c3,cs,he0]) ?_ | refine ZA ?_ ?_)
       all_goals (first | refine Yd ?_ | refine Ye ?_)
       all_goals (first | rfl | (simp; done) | (simp_all; done) | (simp_all; omega))
     cases b3
     · rw [bad (by simp)]
       repeat' (first | intro (hb : _ = _) | refine ZV ?_ | refine ZB tm sp ?_ | refine ZH ?_ ?_ | refine ZJ (by conv=>lhs; simp [q1,q2,hm,n1,n2,cq,c3,cs,he0]) ?_ | refine ZA ?_ ?_)
       all_goals (first | refine Yd ?_ | refine Ye ?_)
       all_goals (first | rfl | (simp; done) | (simp_all; done) | (simp_all; omega))
     have hgn : goodK l k = true → ∀ j,j < k + 1 → goodK l j = true:=fun hz j hj=>by
       by_cases e : j = k
       · subst e; exact hz
       · exact hg j (by omega)
     have good : (c = true ∨ e0 = false) ∨ (c = false ∧ e0 = true):=by cases c <;> cases e0 <;> simp
     rcases good with good | ⟨rfl,rfl⟩
     · have hgo:=hgo (by cases c <;> cases e0 <;> simp at good ⊢)
       clear bad hgk
       by_cases hz : k = 0
       · have hgk : goodK l k = true:=by rw [hgo]; subst hz; rfl
         have hgn:=hgn hgk
         have q5 : ¬ (0 : Int) < (k : Int):=by omega
         have q6 : ¬ 0 < k:=by omega
         clear hz hgo
         cases c
         · cases e0
           · repeat' (first | intro (hb : _ = _) | refine ZV ?_ | refine ZB tm sp ?_ | refine ZH ?_ ?_ | refine ZJ (by conv=>lhs; simp [q1,q2,q5,q6,hm,n1,n2,cq,c3,cs,he0,hw,h1]) ?_ | refine ZA ?_ ?_)
             exact ⟨⟨(k + 1,_),hlt,hgn,by simp [lk_st,h1]⟩,by dsimp only; omega,AS.le_of rfl ⟨rfl,rfl,rfl,rfl,trivial⟩ (fun _=>rfl)⟩
           · simp at good
         · repeat' (first | intro (hb : _ = _) | refine ZV ?_ | refine ZB tm sp ?_ | refine ZH ?_ ?_ | refine ZJ (by conv=>lhs; simp [q1,q2,q5,q6,hm,n1,n2,cq,c3,cs,hw,h1]) ?_ | refine ZA ?_ ?_)
           exact ⟨⟨(k + 1,_),hlt,hgn,by simp [lk_st,h1]⟩,by dsimp only; omega,AS.le_of rfl ⟨rfl,rfl,rfl,rfl,trivial⟩ (fun _=>rfl)⟩
       · obtain ⟨j,hj⟩ : ∃ j,k = j + 1:=⟨k - 1,by omega⟩
         obtain ⟨s,hs⟩:=get_lt (l:=l) (i:=j) (by omega)
         have hms : (l.map lkC)[j]? = some (lkC s):=by rw [List.getElem?_map,hs]; rfl
         have cc:=cmlS_eq s (he s (List.mem_of_getElem? hs)) a b
         have cl:=cmL_lt s a b
         generalize cmL s a b = cv at cc cl
         have q3 : ¬ l.length ≤ j:=by omega
         have q4 : (0 : Int) < (k : Int):=by omega
         have q4' : 0 < k:=by omega
         have hd : IntKind.i64.wrap ((k : Int) - 1) = (j : Int):=by rw [w64 (by omega) (by omega)]; omega
         have q1' : (j : Int) < l.length:=by omega
         have hgo2 : goodK l k = befB s a b:=by rw [hgo]; subst hj; simp only [pvK,hs]
         clear hgo
         obtain ⟨s1,s2,s3,s4⟩:=s
         simp only [lkC] at hms cc
         by_cases hc : cv < 0
         · have hgn:=hgn (by rw [hgo2]; exact cl.1 hc)
           have hc2 : ¬ (0 : Int) ≤ cv:=by omega
           cases c
           · cases e0
             · repeat' (first | intro (hb : _ = _) | refine ZV ?_ | refine ZB tm sp ?_ | refine ZH ?_ ?_ | refine ZJ (by conv=>lhs; simp [q1,q1',q2,q3,q4,q4',hm,hms,n1,n2,cq,c3,cs,he0,hw,hd,h1,cc,hc2]) ?_ | refine ZA ?_ ?_)
               exact ⟨⟨(k + 1,_),hlt,hgn,by simp [lk_st,h1]⟩,by dsimp only; omega,AS.le_of rfl ⟨rfl,rfl,rfl,rfl,trivial⟩ (fun _=>rfl)⟩
             · simp at good
           · repeat' (first | intro (hb : _ = _) | refine ZV ?_ | refine ZB tm sp ?_ | refine ZH ?_ ?_ | refine ZJ (by conv=>lhs; simp [q1,q1',q2,q3,q4,q4',hm,hms,n1,n2,cq,c3,cs,hw,hd,h1,cc,hc2]) ?_ | refine ZA ?_ ?_)
             exact ⟨⟨(k + 1,_),hlt,hgn,by simp [lk_st,h1]⟩,by dsimp only; omega,AS.le_of rfl ⟨rfl,rfl,rfl,rfl,trivial⟩ (fun _=>rfl)⟩
         · have hc2 : (0 : Int) ≤ cv:=by omega
           rw [validK_no hlt (by rw [hgo2]; exact Bool.eq_false_iff.2 fun c=>hc (cl.2 c))]
           cases c
           · cases e0
             · repeat' (first | intro (hb : _ = _) | refine ZV ?_ | refine ZB tm sp ?_ | refine ZH ?_ ?_ | refine ZJ (by conv=>lhs; simp [q1,q1',q2,q3,q4,q4',hm,hms,n1,n2,cq,c3,cs,he0,hw,hd,h1,cc,hc2]) ?_ | refine ZA ?_ ?_)
               all_goals (first | refine Yd ?_ | refine Ye ?_)
               all_goals (first | rfl | (simp; done) | (simp_all; done) | (simp_all; omega))
             · simp at good
           · repeat' (first | intro (hb : _ = _) | refine ZV ?_ | refine ZB tm sp ?_ | refine ZH ?_ ?_ | refine ZJ (by conv=>lhs; simp [q1,q1',q2,q3,q4,q4',hm,hms,n1,n2,cq,c3,cs,hw,hd,h1,cc,hc2]) ?_ | refine ZA ?_ ?_)
             all_goals (first | refine Yd ?_ | refine Ye ?_)
             all_goals (first | rfl | (simp; done) | (simp_all; done) | (simp_all; omega))
     · rw [bad (by simp)]
       repeat' (first | intro (hb : _ = _) | refine ZV ?_ | refine ZB tm sp ?_ | refine ZH ?_ ?_ | refine ZJ (by conv=>lhs; simp [q1,q2,hm,n1,n2,cq,c3,cs,he0]) ?_ | refine ZA ?_ ?_)
       all_goals (first | refine Yd ?_ | refine Ye ?_)
       all_goals (first | rfl | (simp; done) | (simp_all; done) | (simp_all; omega))
   · have c3 : (4096 : Int) < q.length:=by omega
     rw [bad (by simp [h3])]
     repeat' (first | intro (hb : _ = _) | refine ZV ?_ | refine ZB tm sp ?_ | refine ZH ?_ ?_ | refine ZJ (by conv=>lhs; simp [q1,q2,hm,n1,n2,cq,c3]) ?_ | refine ZA ?_ ?_)
     all_goals (first | refine Yd ?_ | refine Ye ?_)
     all_goals (first | rfl | (simp; done) | (simp_all; done) | (simp_all; omega))
noncomputable def lk0 : Lk := ⟨0,0,false,[]⟩
noncomputable def fnpL (l : List Lk) (f t : Int) : Lk := if hasN l (bsN l f t) f t = true then fndK f t l else lk0
noncomputable def fnpS : SpecFn := mkS (fun d : NtS × Int × Int => [.agg [.list 4 (d.1.1.ls.map lkC)], .int .i64 d.2.1, .int .i64 d.2.2]) fun d => (.agg (lkC (fnpL d.1.1.ls d.2.1 d.2.2)),[])
theorem fnpS_eq (d : NtS) (f t : Int) : fnpS [.agg [.list 4 (d.1.ls.map lkC)], .int .i64 f, .int .i64 t] [] = some (.agg (lkC (fnpL d.1.ls f t)),[]) :=
 mkS_eq (enc:=fun d : NtS × Int × Int=>[AV.agg [.list 4 (d.1.1.ls.map lkC)], .int .i64 d.2.1, .int .i64 d.2.2]) (res:=fun d=>(.agg (lkC (fnpL d.1.1.ls d.2.1 d.2.2)),[])) (fun x y h=>by
   obtain ⟨a,b,c⟩:=x
   obtain ⟨a',b',c'⟩:=y
   simp only [List.cons.injEq,AV.agg.injEq,AV.list.injEq,AV.int.injEq,true_and,and_true] at h
   obtain ⟨h1,rfl,rfl⟩:=h
   rw [NtS.inj (lks_inj h1)]) (d,f,t)
noncomputable def fnp_specs : NL Spec := [(52,⟨0,bsnS⟩)]
theorem fnp_specs_ok : ∀ p ∈ fnp_specs,FnC Try.prog p.1 p.2.fn := by
 simp only [fnp_specs,List.mem_cons,List.not_mem_nil,or_false]
 rintro p rfl
 exact bsn_ok
attribute [local simp] fnp_specs
theorem fnp_ok : FnC Try.prog 24 fnpS := by
 refine FnC.walkN 24 (fn:=Try.f24) [74] Try.func24 rfl (by kernel_rfl) (fun d=>?_) (fun d=>⟨_,lkC_nrmR _⟩)
 obtain ⟨⟨⟨l,lh,lq⟩,hs,l8⟩,f,t⟩:=d
 dsimp only at hs l8
 have cb:=bsnS_eq ⟨l,lh,lq⟩ f t
 dsimp only at cb
 change W _ (RetNf _ _ _ (.agg (lkC (fnpL l f t))) []) _ _ ⟨25,[(0, .agg [.list 4 (l.map lkC)]),(1, .int .i64 f),(2, .int .i64 t)],[]⟩
 cases hh : hasN l (bsN l f t) f t with
 | true =>
   obtain ⟨x,hx⟩:=fndK_at hh
   obtain ⟨e1, -⟩:=chg_found hs hx hh
   rw [fnpL,if_pos hh,e1]
   rw [hh] at cb
   generalize bsN l f t = p at *
   have hp : p < l.length:=(List.getElem?_eq_some_iff.1 hx).1
   have hm : (l.map lkC)[p]? = some (lkC x):=by rw [List.getElem?_map,hx]; rfl
   have q1 : (p : Int) < l.length:=by omega
   have q2 : ¬ l.length ≤ p:=by omega
   obtain ⟨a,b,c,q⟩:=x
   simp only [lkC] at hm
   clear hp hx
   repeat' (first | intro (hb : _ = _) | refine ZV ?_ | refine ZB tm fnp_specs_ok ?_ | refine ZH ?_ ?_ | refine ZJ (by conv=>lhs; simp [cb,q1,q2,hm]) ?_ | refine ZA ?_ ?_)
   all_goals (refine Ye ?_)
   all_goals exact lkC_nrmR ⟨a,b,c,q⟩
 | false =>
   rw [fnpL,if_neg (by simp [hh])]
   rw [hh] at cb
   generalize bsN l f t = p at *
   repeat' (first | intro (hb : _ = _) | refine ZV ?_ | refine ZB tm fnp_specs_ok ?_ | refine ZH ?_ ?_ | refine ZJ (by conv=>lhs; simp [cb]) ?_ | refine ZA ?_ ?_)
   all_goals (refine Ye ?_)
   all_goals (show nrmR Try.prog [74] (.agg [.int .i64 0, .int .i64 0, .bool false, .nils]) = _; simp only [nrmR,nrmV]; rw [lkC_nrm0]; rfl)
end
section
attribute [local simp] instA slice3A slice3C
attribute [-simp] mkv
attribute [local simp] mkv_hd hdA_cons hdA_ob hdA_ob'
theorem othK_mem {x y : Lk} {l : List Lk} (h : y ∈ othK x l) : y ∈ l := (List.mem_filter.1 h).1
theorem putP_mem {x y : Lk} : ∀ {l : List Lk},y ∈ putP x l → y = x ∨ y ∈ l
 | [],h=>by
   rw [putP,List.mem_singleton] at h
   exact .inl h
 | e :: r,h=>by
   rw [putP] at h
   split at h
   · rcases List.mem_cons.1 h with rfl | h
     · exact .inr (by simp)
     · rcases putP_mem h with h | h
       · exact .inl h
       · exact .inr (by simp [h])
   · rcases List.mem_cons.1 h with rfl | h
     · exact .inl rfl
     · exact .inr (othK_mem h)
theorem putK_mem {x y : Lk} {l : List Lk} (h : y ∈ putK x l) : y = x ∨ y ∈ l := by
 unfold putK restK at h
 split at h
 · exact .inr (othK_mem h)
 · exact putP_mem h
theorem putK_len (x : Lk) (l : List Lk) : (putK x l).length ≤ l.length + 1 := by
 unfold putK restK
 split
 · exact Nat.le_succ_of_le (List.length_filter_le _ _)
 · exact putP_len x l
structure Nt8 where
 ls : List Lk
 bd : ls.length ≤ 8900
 bq : ∀ l ∈ ls,okK l
def Nt8.n (d : Nt8) : Nts := ⟨d.ls,by have := d.bd; omega,d.bq⟩
noncomputable def cutN (ls : List Lk) (a b : Int) (c : Bool) : List Lk × Int :=
 if validK ls = false then ([],1) else if (!okN a || (!okN b || a == b)) = true then ([],2) else
   let x:=fndK a b ls
   let y:=fndK b a ls
   (putK ⟨y.fr,y.to,c,y.q⟩ (putK ⟨x.fr,x.to,c,x.q⟩ ls),0)
noncomputable def cutS : SpecFn := mkS (fun d : Nt8 × Int × Int × Bool => [d.1.n.v, .int .i64 d.2.1, .int .i64 d.2.2.1, .bool d.2.2.2]) fun d => (rN (cutN d.1.ls d.2.1 d.2.2.1 d.2.2.2).1 (cutN d.1.ls d.2.1 d.2.2.1 d.2.2.2).2,[])
theorem cutS_eq (d : Nt8) (a b : Int) (c : Bool) : cutS [d.n.v, .int .i64 a, .int .i64 b, .bool c] [] = some (rN (cutN d.ls a b c).1 (cutN d.ls a b c).2,[]) :=
 mkS_eq (enc:=fun d : Nt8 × Int × Int × Bool=>[d.1.n.v,AV.int .i64 d.2.1, .int .i64 d.2.2.1, .bool d.2.2.2]) (res:=fun d=>(rN (cutN d.1.ls d.2.1 d.2.2.1 d.2.2.2).1 (cutN d.1.ls d.2.1 d.2.2.1 d.2.2.2).2,[])) (fun x y h=>by
   obtain ⟨⟨l,b1,b2⟩,b,c,d⟩:=x
   obtain ⟨⟨l',b1',b2'⟩,b',c',d'⟩:=y
   simp only [List.cons.injEq,AV.int.injEq,AV.bool.injEq,true_and,and_true] at h
   obtain ⟨h1,rfl,rfl,rfl⟩:=h
   have h2:=Nts.v_inj h1
   simp only [Nt8.n,Nts.mk.injEq] at h2
   subst h2
   rfl) (d,a,b,c)
attribute [local simp] sdk_specs
structure Nt4 where
 ls : List Lk
 bd : ls.length ≤ 4000
 bq : ∀ l ∈ ls,okK l
def Nt4.n (d : Nt4) : Nts := ⟨d.ls,by have := d.bd; omega,d.bq⟩
def pC (p : Int × Int) : List AV := [.int .i64 p.1, .int .i64 p.2]
def rdyL (ls : List Lk) : List (Int × Int) := (ls.filter fun l => !l.cut).map fun l => (l.fr,l.to)
noncomputable def rdyN (ls : List Lk) : List (Int × Int) := if validK ls = false then [] else rdyL ls
noncomputable def rdyS : SpecFn := mkS (fun d : Nts => [d.v]) fun d => (.list 2 ((rdyN d.ls).map pC),[])
theorem rdyS_eq (d : Nts) : rdyS [d.v] [] = some (.list 2 ((rdyN d.ls).map pC),[]) :=
 mkS_eq (enc:=fun d : Nts=>[d.v]) (res:=fun d=>(.list 2 ((rdyN d.ls).map pC),[])) (fun x y h=>by
   simp only [List.cons.injEq,and_true] at h
   cases Nts.v_inj h
   rfl) d
theorem pC_nrm (p : Int × Int) : nrmL Try.prog (leafs Try.prog 45) (pC p) = pC p := by simp [pC,nrmL,nrmV]
theorem uP2 : Try.prog.underlying 61 = some (.slice 45) := by kernel_rfl
theorem cP2 : Try.prog.cellsOf 45 = 2 := by kernel_rfl
theorem rdy_nrmR (l : List (Int × Int)) : nrmR Try.prog [61] (.list 2 (l.map pC)) = .list 2 (l.map pC) := by
 simp only [nrmR,nrmV,uP2,nrmRows_map pC_nrm]
theorem rdy_nrm0 : nrmR Try.prog [61] .nils = .list 2 (([] : List (Int × Int)).map pC) := by
 simp only [nrmR,nrmV,uP2,cP2,List.map_nil]
noncomputable def rdy_specs : NL Spec := [(36,⟨1,vkS⟩)]
attribute [local simp] rdy_specs
end
section
attribute [local simp] instA slice3A slice3C
attribute [-simp] mkv
attribute [local simp] mkv_hd hdA_cons hdA_ob hdA_ob'
theorem Nt8.inj {a b : Nt8} (h : a.ls = b.ls) : a = b := by
 obtain ⟨l,h1,h2⟩:=a
 obtain ⟨l',h1',h2'⟩:=b
 cases h
 rfl
theorem fnp_q {l : List Lk} (hs : SrtK l) (f t : Int) : (fnpL l f t).q = (fndK f t l).q ∧ (fnpL l f t).cut = (fndK f t l).cut := by
 unfold fnpL
 split
 · exact ⟨rfl,rfl⟩
 · rename_i h
   rw [(chg_none hs (by simpa using h)).1]
   exact ⟨rfl,rfl⟩
theorem fnd_ft {l : List Lk} (f t : Int) : (fndK f t l).fr = f ∧ (fndK f t l).to = t := by
 unfold fndK
 cases h : l.find? (lkIs f t) with
 | none=>exact ⟨rfl,rfl⟩
 | some x =>
   have:=List.find?_some h
   exact lkIsK_iff.1 this
noncomputable def sdpS : SpecFn := mkS (fun d : Nt8 × Msg => [.agg [.list 4 (d.1.ls.map lkC)], .agg d.2.v]) fun d => (rN (sndN d.1.ls d.2).1 (sndN d.1.ls d.2).2,[])
theorem sdpS_eq (d : Nt8) (m : Msg) : sdpS [.agg [.list 4 (d.ls.map lkC)], .agg m.v] [] = some (rN (sndN d.ls m).1 (sndN d.ls m).2,[]) :=
 mkS_eq (enc:=fun d : Nt8 × Msg=>[AV.agg [.list 4 (d.1.ls.map lkC)], .agg d.2.v]) (res:=fun d=>(rN (sndN d.1.ls d.2).1 (sndN d.1.ls d.2).2,[])) (fun x y h=>by
   obtain ⟨a,b⟩:=x
   obtain ⟨a',b'⟩:=y
   simp only [List.cons.injEq,AV.agg.injEq,AV.list.injEq,true_and,and_true] at h
   obtain ⟨h1,h2⟩:=h
   rw [Nt8.inj (lks_inj h1),msgv1_inj h2]) (d,m)
noncomputable def sdp_specs : NL Spec := [(15,⟨1,vkS⟩),(23,⟨1,boS okN⟩),(24,⟨1,fnpS⟩),(25,⟨1,cobS⟩),(26,⟨3,chsS⟩)]
theorem sdp_specs_ok : ∀ p ∈ sdp_specs,FnC Try.prog p.1 p.2.fn := by
 simp only [sdp_specs,List.mem_cons,List.not_mem_nil,or_false]
 rintro p (rfl | rfl | rfl | rfl | rfl)
 · exact vap2_ok
 · exact pnode_ok
 · exact fnp_ok
 · exact cob_ok
 · exact chs_ok
attribute [local simp] sdp_specs
theorem sdp_ok : FnC Try.prog 8 sdpS := by
 refine FnC.walkN 8 (fn:=Try.f8) [26,51] Try.func8 rfl (by kernel_rfl) (fun x=>?_) (fun x=>⟨_,rN_nrm _ _⟩)
 obtain ⟨⟨l,l8,he⟩,m⟩:=x
 have hl : l.length ≤ 9000:=by omega
 have cv:=vkS_eq ⟨l,hl,he⟩
 have c1:=boS_eq okN m.fr
 have c2:=boS_eq okN m.to
 simp only [Nts.v] at cv
 change W _ (RetNf _ _ _ (rN (sndN l m).1 (sndN l m).2) []) _ _ ⟨45,[(0, .agg [.list 4 (l.map lkC)]),(1, .agg m.v)],[]⟩
 generalize hR : sndN l m = R
 unfold sndN at hR
 dsimp only at hR
 have rfm:=refsL_msg m
 have rnm:=fun f=>renL_msg f m
 cases hv : validK l with
 | false =>
   rw [if_pos hv] at hR
   subst hR
   rw [hv] at cv
   obtain ⟨u1,u2,u3,u4,u5,mo,u6,u7,u8,u9⟩:=m
   repeat' (first | intro (hb : _ = _) | refine ZV ?_ | refine ZB tm sdp_specs_ok ?_ | refine ZH ?_ ?_ | refine ZJ (by conv=>lhs; simp [cv]) ?_ | refine ZA ?_ ?_)
   refine Ye ?_
   exact rN_nrm0 1
 | true =>
   have hs:=validK_srt hv
   rw [if_neg (by simp [hv])] at hR
   rw [hv] at cv
   have ce:=fnpS_eq ⟨⟨l,hl,he⟩,hs,by show l.length ≤ 8999; omega⟩ m.fr m.to
   have cc:=chsS_eq ⟨⟨l,hl,he⟩,hs,by show l.length ≤ 8999; omega⟩ m.fr m.to m
   dsimp only at ce cc
   obtain ⟨eq1, -⟩:=fnp_q hs m.fr m.to
   have hsl : sndL l m.fr m.to m = putK ⟨(fndK m.fr m.to l).fr,(fndK m.fr m.to l).to,(fndK m.fr m.to l).cut,(fndK m.fr m.to l).q ++ [m]⟩ l:=rfl
   rw [hsl] at cc
   have oe:=fndK_ok he m.fr m.to
   unfold okK at oe
   generalize fndK m.fr m.to l = e at *
   generalize fnpL l m.fr m.to = e' at *
   generalize putK ⟨e.fr,e.to,e.cut,e.q ++ [m]⟩ l = L at *
   have y4 : e'.q.length ≤ 9223372036854775807:=by rw [eq1]; omega
   rw [← eq1] at hR
   have cm:=cobS_eq m.obj
   simp only [mB] at cc
   clear hsl eq1 oe
   obtain ⟨a1,a2,a3,q⟩:=e'
   obtain ⟨u1,u2,u3,u4,u5,mo,u6,u7,u8,u9⟩:=m
   simp only [lkC] at ce
   simp only [Msg.v] at cc rfm rnm
   dsimp only at *
   cases hn1 : okN u1 with
   | false =>
     rw [if_pos (by simp [hn1])] at hR
     subst hR
     rw [hn1] at c1
     repeat' (first | intro (hb : _ = _) | refine ZV ?_ | refine ZB tm sdp_specs_ok ?_ | refine ZH ?_ ?_ | refine ZJ (by conv=>lhs; simp [cv,c1]) ?_ | refine ZA ?_ ?_)
     refine Ye ?_
     exact rN_nrm0 2
   | true =>
     rw [hn1] at c1
     cases hn2 : okN u2 with
     | false =>
       rw [if_pos (by simp [hn2])] at hR
       subst hR
       rw [hn2] at c2
       repeat' (first | intro (hb : _ = _) | refine ZV ?_ | refine ZB tm sdp_specs_ok ?_ | refine ZH ?_ ?_ | refine ZJ (by conv=>lhs; simp [cv,c1,c2]) ?_ | refine ZA ?_ ?_)
       refine Ye ?_
       exact rN_nrm0 2
     | true =>
       rw [hn2] at c2
       rw [if_neg (by simp [hn1,hn2])] at hR
       by_cases hb : 4096 ≤ q.length
       · rw [if_pos hb] at hR
         subst hR
         have b1 : (4096 : Int) ≤ q.length:=by omega
         repeat' (first | intro (hb : _ = _) | refine ZV ?_ | refine ZB tm sdp_specs_ok ?_ | refine ZH ?_ ?_ | refine ZJ (by conv=>lhs; simp [cv,c1,c2,ce,y4,b1]) ?_ | refine ZA ?_ ?_)
         refine Ye ?_
         exact rN_nrm0 9
       · rw [if_neg hb] at hR
         subst hR
         have b1 : ¬ (4096 : Int) ≤ q.length:=by omega
         clear hb hn1 hn2 hv hs
         repeat' (first | intro (hb : _ = _) | refine ZV ?_ | refine ZB tm sdp_specs_ok ?_ | refine ZH ?_ ?_ | refine ZJ (by conv=>lhs; simp [cv,c1,c2,ce,b1,y4,cm,cc,rfm,rnm]) ?_ | refine ZA ?_ ?_)
         refine Ye ?_
         exact rN_nrm L 0
noncomputable def dlpS : SpecFn := mkS (fun d : Nt8 × Int × Int => [.agg [.list 4 (d.1.ls.map lkC)], .int .i64 d.2.1, .int .i64 d.2.2]) fun d => (rDl (dlvN d.1.ls d.2.1 d.2.2).1 (dlvN d.1.ls d.2.1 d.2.2).2.1 (dlvN d.1.ls d.2.1 d.2.2).2.2,[])
theorem dlpS_eq (d : Nt8) (f t : Int) : dlpS [.agg [.list 4 (d.ls.map lkC)], .int .i64 f, .int .i64 t] [] = some (rDl (dlvN d.ls f t).1 (dlvN d.ls f t).2.1 (dlvN d.ls f t).2.2,[]) :=
 mkS_eq (enc:=fun d : Nt8 × Int × Int=>[AV.agg [.list 4 (d.1.ls.map lkC)], .int .i64 d.2.1, .int .i64 d.2.2]) (res:=fun d=>(rDl (dlvN d.1.ls d.2.1 d.2.2).1 (dlvN d.1.ls d.2.1 d.2.2).2.1 (dlvN d.1.ls d.2.1 d.2.2).2.2,[])) (fun x y h=>by
   obtain ⟨a,b,c⟩:=x
   obtain ⟨a',b',c'⟩:=y
   simp only [List.cons.injEq,AV.agg.injEq,AV.list.injEq,AV.int.injEq,true_and,and_true] at h
   obtain ⟨h1,rfl,rfl⟩:=h
   rw [Nt8.inj (lks_inj h1)]) (d,f,t)
noncomputable def dlp_specs : NL Spec := [(15,⟨1,vkS⟩),(24,⟨1,fnpS⟩),(26,⟨3,chdS⟩)]
theorem dlp_specs_ok : ∀ p ∈ dlp_specs,FnC Try.prog p.1 p.2.fn := by
 simp only [dlp_specs,List.mem_cons,List.not_mem_nil,or_false]
 rintro p (rfl | rfl | rfl)
 · exact vap2_ok
 · exact fnp_ok
 · exact chd_ok
attribute [local simp] dlp_specs
theorem dlp_ok : FnC Try.prog 9 dlpS := by
 refine FnC.walkN 9 (fn:=Try.f9) [50,26,51] Try.func9 rfl (by kernel_rfl) (fun x=>?_) (fun x=>⟨_,rDl_nrm _ _ _⟩)
 obtain ⟨⟨l,l8,he⟩,f,t⟩:=x
 have hl : l.length ≤ 9000:=by omega
 have cv:=vkS_eq ⟨l,hl,he⟩
 simp only [Nts.v] at cv
 change W _ (RetNf _ _ _ (rDl (dlvN l f t).1 (dlvN l f t).2.1 (dlvN l f t).2.2) []) _ _ ⟨40,[(0, .agg [.list 4 (l.map lkC)]),(1, .int .i64 f),(2, .int .i64 t)],[]⟩
 generalize hR : dlvN l f t = R
 unfold dlvN at hR
 dsimp only at hR
 cases hv : validK l with
 | false =>
   rw [if_pos hv] at hR
   subst hR
   rw [hv] at cv
   repeat' (first | intro (hb : _ = _) | refine ZV ?_ | refine ZB tm dlp_specs_ok ?_ | refine ZH ?_ ?_ | refine ZJ (by conv=>lhs; simp [cv,zO]) ?_ | refine ZA ?_ ?_)
   refine Ye ?_
   exact rDl_nrm0 1
 | true =>
   have hs:=validK_srt hv
   rw [if_neg (by simp [hv])] at hR
   rw [hv] at cv
   have ce:=fnpS_eq ⟨⟨l,hl,he⟩,hs,by show l.length ≤ 8999; omega⟩ f t
   have cc:=fun (m : Msg) (r : List Msg) (h : (fndK f t l).q = m :: r)=>chdS_eq ⟨⟨l,hl,he⟩,hs,by show l.length ≤ 8999; omega⟩ f t m r h
   dsimp only at ce cc
   obtain ⟨eq1,eq2⟩:=fnp_q hs f t
   have hsl : ∀ r,dlvL l f t r = putK ⟨(fndK f t l).fr,(fndK f t l).to,(fndK f t l).cut,r⟩ l:=fun _=>rfl
   simp only [hsl] at cc
   have oe:=fndK_ok he f t
   unfold okK at oe
   generalize fndK f t l = e at *
   generalize fnpL l f t = e' at *
   have y4 : e'.q.length ≤ 9223372036854775807:=by rw [eq1]; omega
   obtain ⟨a1,a2,a3,q⟩:=e'
   simp only [lkC] at ce
   dsimp only at eq1 eq2 y4
   rw [← eq1] at cc
   cases hq : q with
   | nil =>
     rw [← eq1,hq] at hR
     dsimp only at hR
     subst hR
     rw [hq] at ce
     repeat' (first | intro (hb : _ = _) | refine ZV ?_ | refine ZB tm dlp_specs_ok ?_ | refine ZH ?_ ?_ | refine ZJ (by conv=>lhs; simp [cv,ce,zO]) ?_ | refine ZA ?_ ?_)
     refine Ye ?_
     exact rDl_nrm0 6
   | cons m r =>
     rw [← eq1,hq] at hR
     dsimp only at hR
     rw [← eq2] at hR
     have cc:=cc m r hq
     rw [← eq2] at cc
     generalize putK ⟨e.fr,e.to,a3,r⟩ l = L at *
     have h0 : ((q.length : Int) == 0) = false:=by rw [hq]; simp; omega
     clear hq eq1 eq2 oe hsl
     cases a3 with
     | true =>
       rw [if_pos rfl] at hR
       subst hR
       repeat' (first | intro (hb : _ = _) | refine ZV ?_ | refine ZB tm dlp_specs_ok ?_ | refine ZH ?_ ?_ | refine ZJ (by conv=>lhs; simp [cv,ce,zO,h0,y4]) ?_ | refine ZA ?_ ?_)
       refine Ye ?_
       exact rDl_nrm0 8
     | false =>
       rw [if_neg (by decide)] at hR
       subst hR
       have rfz:=refsL_mz
       have rnz:=fun f=>renL_mz f
       have rfm:=refsL_msg m
       have rnm:=fun f=>renL_msg f m
       obtain ⟨u1,u2,u3,u4,u5,mo,u6,u7,u8,u9⟩:=m
       simp only [mzB,mzC,mB,Msg.v] at cc rfz rnz rfm rnm
       simp only [zO,List.cons_append,List.nil_append] at cc rfz rnz
       repeat' (first | intro (hb : _ = _) | refine ZV ?_ | refine ZB tm dlp_specs_ok ?_ | refine ZH ?_ ?_ | refine ZJ (by conv=>lhs; simp [cv,ce,h0,y4,cc,rfz,rnz,rfm,rnm]) ?_ | refine ZA ?_ ?_)
       refine Ye ?_
       exact rDl_nrm ⟨u1,u2,u3,u4,u5,mo,u6,u7,u8,u9⟩ L 0
end
section
attribute [local simp] instA slice3A slice3C
attribute [-simp] mkv
attribute [local simp] mkv_hd hdA_cons hdA_ob hdA_ob'
theorem find_oth {y : Lk} {f t : Int} (h : lkIs f t y = false) (l : List Lk) : (othK y l).find? (lkIs f t) = l.find? (lkIs f t) := by
 unfold othK
 rw [List.find?_filter]
 congr 1
 funext a
 cases ha : lkIs f t a with
 | false=>simp
 | true =>
   obtain ⟨e1,e2⟩:=lkIsK_iff.1 ha
   have : ¬ (a.fr = y.fr ∧ a.to = y.to):=fun ⟨g1,g2⟩=>by
     rw [show lkIs f t y = true from lkIsK_iff.2 ⟨by rw [← g1,e1],by rw [← g2,e2]⟩] at h
     cases h
   by_cases g1 : a.fr = y.fr
   · by_cases g2 : a.to = y.to
     · exact absurd ⟨g1,g2⟩ this
     · simp [g2]
   · simp [g1]
theorem find_putP {y : Lk} {f t : Int} (h : lkIs f t y = false) : ∀ l : List Lk,(putP y l).find? (lkIs f t) = l.find? (lkIs f t)
 | []=>by simp [putP,h]
 | e :: r=>by
   rw [putP]
   split
   · simp only [List.find?_cons,find_putP h r]
   · rw [List.find?_cons,h]
     exact find_oth h (e :: r)
theorem fndK_put {y : Lk} {f t : Int} (h : lkIs f t y = false) (l : List Lk) : fndK f t (putK y l) = fndK f t l := by
 unfold fndK putK restK
 split
 · rw [find_oth h]
 · rw [find_putP h]
noncomputable def cup_specs : NL Spec := [(15,⟨1,vkS⟩),(23,⟨1,boS okN⟩),(26,⟨3,chcS⟩)]
theorem cup_specs_ok : ∀ p ∈ cup_specs,FnC Try.prog p.1 p.2.fn := by
 simp only [cup_specs,List.mem_cons,List.not_mem_nil,or_false]
 rintro p (rfl | rfl | rfl)
 · exact vap2_ok
 · exact pnode_ok
 · exact chc_ok
attribute [local simp] cup_specs
theorem pct_ok : FnC Try.prog 12 cutS := by
 refine FnC.walkN 12 (fn:=Try.f12) [26,51] Try.func12 rfl (by kernel_rfl) (fun x=>?_) (fun x=>⟨_,rN_nrm _ _⟩)
 obtain ⟨⟨l,l8,he⟩,a,b,c⟩:=x
 have hl : l.length ≤ 9000:=by omega
 have cv:=vkS_eq ⟨l,hl,he⟩
 have c1:=boS_eq okN a
 have c2:=boS_eq okN b
 simp only [Nts.v] at cv
 change W _ (RetNf _ _ _ (rN (cutN l a b c).1 (cutN l a b c).2) []) _ _ ⟨41,[(0, .agg [.list 4 (l.map lkC)]),(1, .int .i64 a),(2, .int .i64 b),(3, .bool c)],[]⟩
 generalize hR : cutN l a b c = R
 unfold cutN at hR
 dsimp only at hR
 cases hv : validK l with
 | false =>
   rw [if_pos hv] at hR
   subst hR
   rw [hv] at cv
   repeat' (first | intro (hb : _ = _) | refine ZV ?_ | refine ZB tm cup_specs_ok ?_ | refine ZH ?_ ?_ | refine ZJ (by conv=>lhs; simp [cv]) ?_ | refine ZA ?_ ?_)
   refine Ye ?_
   exact rN_nrm0 1
 | true =>
   have hs:=validK_srt hv
   rw [if_neg (by simp [hv])] at hR
   rw [hv] at cv
   cases h1 : okN a with
   | false =>
     rw [if_pos (by simp [h1])] at hR
     subst hR
     rw [h1] at c1
     repeat' (first | intro (hb : _ = _) | refine ZV ?_ | refine ZB tm cup_specs_ok ?_ | refine ZH ?_ ?_ | refine ZJ (by conv=>lhs; simp [cv,c1]) ?_ | refine ZA ?_ ?_)
     refine Ye ?_
     exact rN_nrm0 2
   | true =>
     rw [h1] at c1
     cases h2 : okN b with
     | false =>
       rw [if_pos (by simp [h2])] at hR
       subst hR
       rw [h2] at c2
       repeat' (first | intro (hb : _ = _) | refine ZV ?_ | refine ZB tm cup_specs_ok ?_ | refine ZH ?_ ?_ | refine ZJ (by conv=>lhs; simp [cv,c1,c2]) ?_ | refine ZA ?_ ?_)
       refine Ye ?_
       exact rN_nrm0 2
     | true =>
       rw [h2] at c2
       cases h3 : (a == b) with
       | true =>
         rw [if_pos (by simp [h3])] at hR
         subst hR
         repeat' (first | intro (hb : _ = _) | refine ZV ?_ | refine ZB tm cup_specs_ok ?_ | refine ZH ?_ ?_ | refine ZJ (by conv=>lhs; simp [cv,c1,c2,h3]) ?_ | refine ZA ?_ ?_)
         refine Ye ?_
         exact rN_nrm0 2
       | false =>
         rw [if_neg (by simp [h1,h2,h3])] at hR
         have ne : ¬ a = b:=by simpa using h3
         obtain ⟨xf,xt⟩:=fnd_ft (l:=l) a b
         have cP:=chcS_eq ⟨⟨l,hl,he⟩,hs,by show l.length ≤ 8999; omega⟩ a b c
         have ex : cutL l a b c = putK ⟨(fndK a b l).fr,(fndK a b l).to,c,(fndK a b l).q⟩ l:=rfl
         have nb : lkIs b a ⟨(fndK a b l).fr,(fndK a b l).to,c,(fndK a b l).q⟩ = false:=by
           rw [xf,xt,Bool.eq_false_iff]
           exact fun hc=>ne (lkIsK_iff.1 hc).1
         have ef:=fndK_put nb l
         have ox:=fndK_ok he a b
         dsimp only at cP
         rw [ex] at cP
         have hl2:=putK_len ⟨(fndK a b l).fr,(fndK a b l).to,c,(fndK a b l).q⟩ l
         have he2 : ∀ y ∈ putK ⟨(fndK a b l).fr,(fndK a b l).to,c,(fndK a b l).q⟩ l,okK y:=fun y hy=>by
           rcases putK_mem hy with rfl | hy
           · exact ox
           · exact he y hy
         have hs2:=srt_part hs ⟨(fndK a b l).fr,(fndK a b l).to,c,(fndK a b l).q⟩
         clear xf xt nb ox ex
         rw [← ef] at hR
         generalize putK ⟨(fndK a b l).fr,(fndK a b l).to,c,(fndK a b l).q⟩ l = L1 at *
         have cQ:=chcS_eq ⟨⟨L1,by omega,he2⟩,hs2,by show L1.length ≤ 8999; omega⟩ b a c
         have ey : cutL L1 b a c = putK ⟨(fndK b a L1).fr,(fndK b a L1).to,c,(fndK b a L1).q⟩ L1:=rfl
         dsimp only at cQ
         rw [ey] at cQ
         generalize putK ⟨(fndK b a L1).fr,(fndK b a L1).to,c,(fndK b a L1).q⟩ L1 = L2 at *
         subst hR
         simp only [cB] at cP cQ
         clear hv h1 h2 hl2 he2 ef ey hs hs2 ne
         repeat' (first | intro (hb : _ = _) | refine ZV ?_ | refine ZB tm cup_specs_ok ?_ | refine ZH ?_ ?_ | refine ZJ (by conv=>lhs; simp [cv,c1,c2,h3,cP,cQ]) ?_ | refine ZA ?_ ?_)
         refine Ye ?_
         exact rN_nrm L2 0
end
section
attribute [local simp] instA slice3A slice3C
attribute [-simp] mkv
attribute [local simp] mkv_hd hdA_cons hdA_ob hdA_ob'
theorem fnd_self : ∀ {l : List Lk},SrtK l → ∀ e ∈ l,fndK e.fr e.to l = e
 | [],_,e,h=>by simp at h
 | x :: r,hs,e,h=>by
   have hs:=List.pairwise_cons.1 hs
   rcases List.mem_cons.1 h with rfl | h
   · have : lkIs e.fr e.to e = true:=lkIsK_iff.2 ⟨rfl,rfl⟩
     simp only [fndK,List.find?_cons,this,Option.getD_some]
   · have : lkIs e.fr e.to x = false:=bef_is (hs.1 e h)
     have:=fnd_self hs.2 e h
     simp only [fndK] at this
     simp only [fndK,List.find?_cons, *]
theorem valid_mem {l : List Lk} (h : validK l = true) {k : Nat} {e : Lk} (hr : l[k]? = some e) : lkB e = true := by
 unfold validK at h
 rw [List.all_eq_true] at h
 have:=h k (List.mem_range.2 (List.getElem?_eq_some_iff.1 hr).1)
 unfold goodK at this
 rw [hr] at this
 simp only [Bool.and_eq_true] at this
 exact this.1
theorem lkB_ne {e : Lk} (h : lkB e = true) : ¬ (e.cut = false ∧ e.q = []) := fun ⟨h1,h2⟩ => by
 simp [lkB,h1,h2] at h
noncomputable def fgp_specs : NL Spec := [(15,⟨1,vkS⟩),(31,⟨3,cpnS⟩),(26,⟨3,chfS⟩)]
attribute [local simp] fgp_specs
end
section
attribute [local simp] instA slice3A slice3C
attribute [-simp] mkv
attribute [local simp] mkv_hd hdA_cons hdA_ob hdA_ob'
noncomputable def smeS : SpecFn := mkS (fun m : Msg => [.agg m.v, .agg m.v]) fun _ => (.bool true,[])
noncomputable def sme_specs : NL Spec := [(29,⟨1,sobS⟩)]
attribute [local simp] sme_specs
noncomputable def snw_specs : NL Spec := [(10,⟨1,smeS⟩)]
attribute [local simp] snw_specs
end
section
attribute [local simp] instA slice3A slice3C
attribute [-simp] mkv
attribute [local simp] mkv_hd hdA_cons hdA_ob hdA_ob'
theorem msg_nrmz (f t k i m a b c e : Int) : nrmL Try.prog (leafs Try.prog 50) (.int .i64 f :: .int .i64 t :: .int .i64 k :: .int .u64 i :: .int .i64 m :: (zO ++ [.int .u64 a, .int .i64 b, .int .u64 c, .int .i64 e])) = (⟨f,t,k,i,m,zOb,a,b,c,e⟩ : Msg).v := by
 rw [msgLeafs]
 simp only [Msg.v,nrmL]
 rw [nrmL_append _ _ _ _ (by rw [obLeafs]; rfl),zN_eq]
 simp [nrmL,nrmV,zOb]
noncomputable def sdpN : SpecFn := nS Try.prog [26,50] sdpS
theorem sdpN_ok : FnC Try.prog 8 sdpN := sdp_ok.nrm _
theorem nw_nrm (l : List Lk) : nrmV Try.prog 26 (.agg [.list 4 (l.map lkC)]) = .agg [.list 4 (l.map lkC)] := by
 simp only [nrmV,nwLeafs,nrmL,uK,nrmRows_map lkC_nrm]
theorem nw_nrm0 : nrmV Try.prog 26 (.agg [.nils]) = .agg [.list 4 (([] : List Lk).map lkC)] := by
 simp only [nrmV,nwLeafs,nrmL,uK,cK,List.map_nil]
theorem sdpN_eq0 (d : Nt8) (f t k i m a b c e : Int) : sdpN [.agg [.list 4 (d.ls.map lkC)], .agg (.int .i64 f :: .int .i64 t :: .int .i64 k :: .int .u64 i :: .int .i64 m :: (zO ++ [.int .u64 a, .int .i64 b, .int .u64 c, .int .i64 e]))] [] = some (rN (sndN d.ls ⟨f,t,k,i,m,zOb,a,b,c,e⟩).1 (sndN d.ls ⟨f,t,k,i,m,zOb,a,b,c,e⟩).2,[]) := by
 rw [sdpN,nS_eq]
 simp only [nrmL]
 rw [nw_nrm,show nrmV Try.prog 50 (.agg (.int .i64 f :: .int .i64 t :: .int .i64 k :: .int .u64 i :: .int .i64 m :: (zO ++ [.int .u64 a, .int .i64 b, .int .u64 c, .int .i64 e]))) = .agg (⟨f,t,k,i,m,zOb,a,b,c,e⟩ : Msg).v by rw [nrmV,msg_nrmz]]
 exact sdpS_eq d _
theorem sdpN_eqn (f t k i m a b c e : Int) : sdpN [.agg [.nils], .agg (.int .i64 f :: .int .i64 t :: .int .i64 k :: .int .u64 i :: .int .i64 m :: (zO ++ [.int .u64 a, .int .i64 b, .int .u64 c, .int .i64 e]))] [] = some (rN (sndN [] ⟨f,t,k,i,m,zOb,a,b,c,e⟩).1 (sndN [] ⟨f,t,k,i,m,zOb,a,b,c,e⟩).2,[]) := by
 rw [sdpN,nS_eq]
 simp only [nrmL]
 rw [nw_nrm0,show nrmV Try.prog 50 (.agg (.int .i64 f :: .int .i64 t :: .int .i64 k :: .int .u64 i :: .int .i64 m :: (zO ++ [.int .u64 a, .int .i64 b, .int .u64 c, .int .i64 e]))) = .agg (⟨f,t,k,i,m,zOb,a,b,c,e⟩ : Msg).v by rw [nrmV,msg_nrmz]]
 exact sdpS_eq ⟨[],by simp,by simp⟩ _
noncomputable def m7 : Msg := ⟨1,2,0,7,0,zOb,0,0,0,0⟩
noncomputable def k7 (c : Bool) : Lk := ⟨1,2,c,[m7]⟩
noncomputable def k0 : Lk := ⟨2,1,true,[]⟩
theorem s1_eq : sndN [] m7 = ([k7 false],0) := by
 simp [sndN,validK,fndK,putK,restK,putP,okN,m7,k7]
theorem v1 : validK [k7 false] = true := by
 simp [validK,goodK,lkB,okN,m7,k7,List.range_succ]
theorem v2 : validK [k7 true,k0] = true := by
 simp [validK,goodK,lkB,okN,m7,k7,k0,befB,List.range_succ]
theorem v3 : validK [] = true := by simp [validK]
theorem s2_eq : cutN [k7 false] 1 2 true = ([k7 true,k0],0) := by
 rw [cutN,v1]
 simp [fndK,putK,restK,putP,othK,befB,lkIs,okN,m7,k7,k0]
theorem s3_eq : dlvN [k7 true,k0] 1 2 = (mz,[],8) := by
 rw [dlvN,v2]
 simp [fndK,lkIs,k7]
theorem s4_eq : cutN [k7 true,k0] 2 1 false = ([k7 false],0) := by
 rw [cutN,v2]
 simp [fndK,putK,restK,putP,othK,befB,lkIs,okN,m7,k7,k0]
theorem s5_eq : dlvN [k7 false] 1 2 = (m7,[],0) := by
 rw [dlvN,v1]
 simp [fndK,putK,restK,putP,othK,befB,lkIs,k7]
noncomputable def sanS : SpecFn := mkS (fun _ : Unit => []) fun _ => (.bool true,[])
theorem sanS_eq : sanS [] [] = some (.bool true,[]) := mkS_eq (enc := fun _ : Unit => ([] : List AV)) (fun _ _ _ => rfl) ()
noncomputable def san_specs : NL Spec := [(8,⟨1,sdpN⟩),(12,⟨1,cutS⟩),(9,⟨1,dlpS⟩),(15,⟨1,vkS⟩)]
theorem san_specs_ok : ∀ p ∈ san_specs,FnC Try.prog p.1 p.2.fn := by
 simp only [san_specs,List.mem_cons,List.not_mem_nil,or_false]
 rintro p (rfl | rfl | rfl | rfl)
 · exact sdpN_ok
 · exact pct_ok
 · exact dlp_ok
 · exact vap2_ok
attribute [local simp] san_specs
theorem san_ok : FnC Try.prog 6 sanS := by
 refine FnC.walk 6 (fn:=Try.f6) Try.func6 rfl (by kernel_rfl) fun d=>?_
 change W _ (Ret _ _ (.bool true) []) _ _ ⟨71,[],[]⟩
 have c1:=sdpN_eqn 1 2 0 7 0 0 0 0 0
 have c2:=cutS_eq ⟨[k7 false],by simp,by simp [okK,k7]⟩ 1 2 true
 have c3:=dlpS_eq ⟨[k7 true,k0],by simp,by simp [okK,k7,k0]⟩ 1 2
 have c4:=cutS_eq ⟨[k7 true,k0],by simp,by simp [okK,k7,k0]⟩ 2 1 false
 have c5:=dlpS_eq ⟨[k7 false],by simp,by simp [okK,k7]⟩ 1 2
 have c6:=vkS_eq ⟨[],by simp,by simp⟩
 rw [show (⟨1,2,0,7,0,zOb,0,0,0,0⟩ : Msg) = m7 from rfl,s1_eq] at c1
 simp only [Nt8.n,Nts.v] at c2 c3 c4 c5 c6
 rw [s2_eq] at c2
 rw [s3_eq] at c3
 rw [s4_eq] at c4
 rw [s5_eq] at c5
 rw [v3] at c6
 generalize [k7 false] = L1 at *
 generalize [k7 true,k0] = L2 at *
 simp only [zO,List.cons_append,List.nil_append] at c1
 simp only [rN,rDl,mz,m7,Msg.v,List.map_nil] at c1 c2 c3 c4 c5 c6
 repeat' (first | intro (hb : _ = _) | refine ZV ?_ | refine ZB tm san_specs_ok ?_ | refine ZH ?_ ?_ | refine ZJ (by conv=>lhs; simp [c1,c2,c3,c4,c5,c6]) ?_ | refine ZA ?_ ?_)
 all_goals (first | refine Yd ?_ | refine Ye ?_)
 all_goals (first | rfl | (simp; done) | (simp_all; done) | (simp_all; omega))
end
section
def R4 (n : Int) : Prop := 0 ≤ n ∧ n < 4
theorem R4_ok {n : Int} (h : R4 n) : okN n = true := by
 obtain ⟨h1,h2⟩:=h
 simp only [okN,Bool.and_eq_true,decide_eq_true_eq]
 omega
structure NtV (n c : Nat) (ls : List Lk) : Prop where
 srt : SrtK ls
 len : ls.length ≤ c
 lk : ∀ l ∈ ls,R4 l.fr ∧ R4 l.to ∧ l.q.length ≤ n ∧ ¬ (l.cut = false ∧ l.q = []) ∧ ∀ m ∈ l.q,m.fr = l.fr ∧ m.to = l.to
theorem NtV.nil : NtV 0 0 [] := ⟨List.Pairwise.nil,Nat.le_refl _,fun l h => (by cases h)⟩
theorem NtV.mono {n c n' c' : Nat} {ls : List Lk} (h : NtV n c ls) (hn : n ≤ n') (hc : c ≤ c') : NtV n' c' ls :=
 ⟨h.srt,Nat.le_trans h.len hc,fun l hl=>by
   obtain ⟨h1,h2,h3,h4⟩:=h.lk l hl
   exact ⟨h1,h2,Nat.le_trans h3 hn,h4⟩⟩
theorem NtV.valid {n c : Nat} {ls : List Lk} (h : NtV n c ls) (hn : n ≤ 4096) : validK ls = true := by
 refine validK_yes fun k hk=>?_
 obtain ⟨a,b,c,d,f⟩:=h.lk _ (List.getElem_mem hk)
 unfold goodK
 rw [List.getElem?_eq_getElem hk]
 have h1 : lkB ls[k] = true:=by
   unfold lkB
   rw [R4_ok a,R4_ok b,decide_eq_true (Nat.le_trans c hn)]
   cases hc : ls[k].cut with
   | true=>rfl
   | false=>cases hq : ls[k].q with
     | nil=>exact absurd ⟨hc,hq⟩ d
     | cons x r=>rfl
 have h2 : ls[k].q.all (fun m=>m.fr == ls[k].fr && m.to == ls[k].to) = true:=by
   rw [List.all_eq_true]
   intro m hm
   obtain ⟨x,y⟩:=f m hm
   simp [x,y]
 simp only [h1,h2,Bool.true_and]
 cases k with
 | zero=>rfl
 | succ i =>
   simp only [List.getElem?_eq_getElem (show i < ls.length by omega)]
   exact List.pairwise_iff_getElem.1 h.srt i (i + 1) (by omega) hk (by omega)
theorem NtV.okK {n c : Nat} {ls : List Lk} (h : NtV n c ls) (hn : n ≤ 4096) : ∀ l ∈ ls,okK l := fun l hl => by
 have:=(h.lk l hl).2.2.1
 unfold Go.Abs.Nn.okK
 omega
theorem NtV.put {n c : Nat} {ls : List Lk} (h : NtV n c ls) {y : Lk} (hf : R4 y.fr) (ht : R4 y.to) (hq : y.q.length ≤ n) (hm : ∀ m ∈ y.q,m.fr = y.fr ∧ m.to = y.to) : NtV n (c + 1) (putK y ls) := by
 refine ⟨srt_part h.srt y,Nat.le_trans (putK_len y ls) (Nat.succ_le_succ h.len),fun l hl=>?_⟩
 by_cases hd : (!y.cut && y.q.isEmpty) = true
 · unfold putK restK at hl
   rw [if_pos hd] at hl
   exact h.lk l (othK_mem hl)
 · rcases putK_mem hl with rfl | hl
   · refine ⟨hf,ht,hq,fun ⟨h1,h2⟩=>hd (by rw [h1,h2]; rfl),hm⟩
   · exact h.lk l hl
theorem NtV.fnd {n c : Nat} {ls : List Lk} (h : NtV n c ls) (f t : Int) : (fndK f t ls).q.length ≤ n ∧ ∀ m ∈ (fndK f t ls).q,m.fr = f ∧ m.to = t := by
 unfold fndK
 cases hf : ls.find? (lkIs f t) with
 | none=>exact ⟨Nat.zero_le _,fun m hm=>by cases hm⟩
 | some l =>
   obtain ⟨e1,e2⟩:=lkIsK_iff.1 (List.find?_some hf)
   obtain ⟨_,_,h1,_,h2⟩:=h.lk l (List.mem_of_find?_eq_some hf)
   rw [e1,e2] at h2
   exact ⟨h1,h2⟩
theorem othK_none (y : Lk) (l : List Lk) : (othK y l).find? (lkIs y.fr y.to) = none := by
 rw [List.find?_eq_none]
 intro x hx hk
 obtain ⟨e1,e2⟩:=lkIsK_iff.1 hk
 have:=(List.mem_filter.1 hx).2
 simp [e1,e2] at this
theorem memK_put (y : Lk) : ∀ l : List Lk,y ∈ putP y l
 | []=>by simp [putP]
 | e :: r=>by
   rw [putP]
   split
   · exact List.mem_cons_of_mem _ (memK_put y r)
   · exact List.mem_cons_self ..
theorem fndK_self {l : List Lk} (hs : SrtK l) (y : Lk) : fndK y.fr y.to (putK y l) = y := by
 by_cases hd : (!y.cut && y.q.isEmpty) = true
 · have e : putK y l = othK y l:=by unfold putK restK; rw [if_pos hd]
   rw [e,fndK,othK_none]
   obtain ⟨a,b,c,q⟩:=y
   cases c <;> cases q <;> first | rfl | simp at hd
 · have e : y ∈ putK y l:=by
     unfold putK restK
     rw [if_neg hd]
     exact memK_put y l
   exact fnd_self (srt_part hs y) y e
theorem srt_ext : ∀ {a b : List Lk},SrtK a → SrtK b → (∀ x,x ∈ a ↔ x ∈ b) → a = b
 | [],[],_,_,_=>rfl
 | [],y :: b,_,_,h=>by have:=(h y).2 (by simp); cases this
 | x :: a,[],_,_,h=>by have:=(h x).1 (by simp); cases this
 | x :: a,y :: b,ha,hb,h=>by
   have ha:=List.pairwise_cons.1 ha
   have hb:=List.pairwise_cons.1 hb
   have irr : ∀ {u v : Lk},befB u v.fr v.to = true → befB v u.fr u.to = true → False:=fun h1 h2=>by
     rw [befK_iff] at h1 h2
     omega
   have hxy : x = y:=by
     rcases List.mem_cons.1 ((h x).1 (by simp)) with e | e
     · exact e
     · rcases List.mem_cons.1 ((h y).2 (by simp)) with e2 | e2
       · exact e2.symm
       · exact (irr (hb.1 x e) (ha.1 y e2)).elim
   subst hxy
   congr 1
   refine srt_ext ha.2 hb.2 fun z=>⟨fun hz=>?_,fun hz=>?_⟩
   · rcases List.mem_cons.1 ((h z).1 (by simp [hz])) with e | e
     · subst e
       exact (irr (ha.1 z hz) (ha.1 z hz)).elim
     · exact e
   · rcases List.mem_cons.1 ((h z).2 (by simp [hz])) with e | e
     · subst e
       exact (irr (hb.1 z hz) (hb.1 z hz)).elim
     · exact e
theorem NtV.sub {n c n' c' : Nat} {a b : List Lk} (ha : NtV n c a) (_hb : NtV n' c' b) (h : ∀ f t,fndK f t a = fndK f t b) (x : Lk) (hx : x ∈ a) : x ∈ b := by
 have e:=fnd_self ha.srt x hx
 rw [h] at e
 unfold fndK at e
 cases hf : b.find? (lkIs x.fr x.to) with
 | none =>
   rw [hf] at e
   have e : (⟨x.fr,x.to,false,[]⟩ : Lk) = x:=e
   exact ((ha.lk x hx).2.2.2.1 ⟨by rw [← e],by rw [← e]⟩).elim
 | some z =>
   rw [hf] at e
   have e : z = x:=e
   rw [← e]
   exact List.mem_of_find?_eq_some hf
theorem NtV.ext {n c n' c' : Nat} {a b : List Lk} (ha : NtV n c a) (hb : NtV n' c' b) (h : ∀ f t,fndK f t a = fndK f t b) : a = b :=
 srt_ext ha.srt hb.srt fun x=>⟨ha.sub hb h x,hb.sub ha (fun f t=>(h f t).symm) x⟩
noncomputable def dlvO (l : Lk) : Msg × Int := match l.q with
 | []=>(mz,6)
 | m :: _=>if l.cut then (mz,8) else (m,0)
theorem dlvN_o {ls : List Lk} (h : validK ls = true) (f t : Int) : (dlvN ls f t).1 = (dlvO (fndK f t ls)).1 ∧ (dlvN ls f t).2.2 = (dlvO (fndK f t ls)).2 := by
 unfold dlvN dlvO
 rw [if_neg (by simp [h])]
 dsimp only
 cases (fndK f t ls).q with
 | nil=>exact ⟨rfl,rfl⟩
 | cons m r=>cases (fndK f t ls).cut <;> exact ⟨rfl,rfl⟩
theorem snd_v {n c : Nat} {ls : List Lk} (h : NtV n c ls) (hn : n < 4096) {m : Msg} (hf : R4 m.fr) (ht : R4 m.to) : sndN ls m = (putK ⟨m.fr,m.to,(fndK m.fr m.to ls).cut,(fndK m.fr m.to ls).q ++ [m]⟩ ls,0) ∧ NtV (n + 1) (c + 1) (putK ⟨m.fr,m.to,(fndK m.fr m.to ls).cut,(fndK m.fr m.to ls).q ++ [m]⟩ ls) := by
 have h2:=h.fnd m.fr m.to
 refine ⟨?_,(h.mono (Nat.le_succ n) (Nat.le_refl c)).put hf ht (by simp; omega) fun x hx=>?_⟩
 · unfold sndN
   rw [if_neg (by simp [h.valid (by omega)]),if_neg (by simp [R4_ok hf,R4_ok ht])]
   dsimp only
   rw [if_neg (by omega),(fnd_ft m.fr m.to).1,(fnd_ft m.fr m.to).2]
 · rcases List.mem_append.1 hx with hx | hx
   · exact h2.2 x hx
   · rw [List.mem_singleton.1 hx]
     exact ⟨rfl,rfl⟩
theorem dlv_v {n c : Nat} {ls : List Lk} (h : NtV n c ls) (hn : n ≤ 4096) {f t : Int} (hf : R4 f) (ht : R4 t) (h0 : (dlvN ls f t).2.2 = 0) : ∃ m r,(fndK f t ls).cut = false ∧ (fndK f t ls).q = m :: r ∧ dlvN ls f t = (m,putK ⟨f,t,false,r⟩ ls,0) ∧ NtV n (c + 1) (putK ⟨f,t,false,r⟩ ls) := by
 have h2:=h.fnd f t
 have h3:=fnd_ft (l:=ls) f t
 unfold dlvN at h0 ⊢
 rw [if_neg (by simp [h.valid hn])] at h0 ⊢
 dsimp only at h0 ⊢
 cases hq : (fndK f t ls).q with
 | nil=>rw [hq] at h0; exact absurd (show (6 : Int) = 0 from h0) (by decide)
 | cons m r =>
   rw [hq] at h0 h2
   cases hc : (fndK f t ls).cut with
   | true=>rw [hc] at h0; exact absurd (show (8 : Int) = 0 from h0) (by decide)
   | false =>
     refine ⟨m,r,rfl,rfl, ?_,h.put hf ht (by have:=h2.1; simp only [List.length_cons] at this; dsimp only; omega) fun x hx=>h2.2 x (by simp [hx])⟩
     rw [h3.1,h3.2]
     rfl
theorem apart {n c : Nat} {ls : List Lk} (h : NtV n c ls) (hn : n < 4096) {m : Msg} (hf : R4 m.fr) (ht : R4 m.to) {k l : Int} (hk : R4 k) (hl : R4 l) (hne : ¬ (m.fr = k ∧ m.to = l)) :
   (sndN ls m).2 = 0 ∧ NtV (n + 1) (c + 1) (sndN ls m).1 ∧ (dlvN (sndN ls m).1 k l).1 = (dlvN ls k l).1 ∧ (dlvN (sndN ls m).1 k l).2.2 = (dlvN ls k l).2.2 ∧ ((dlvN ls k l).2.2 = 0 → NtV n (c + 1) (dlvN ls k l).2.1 ∧ (sndN (dlvN ls k l).2.1 m).2 = 0 ∧ (dlvN (sndN ls m).1 k l).2.1 = (sndN (dlvN ls k l).2.1 m).1 ∧ NtV (n + 1) (c + 2) (sndN (dlvN ls k l).2.1 m).1):=by
 obtain ⟨e1,v1⟩:=snd_v h hn hf ht
 have hne' : ∀ {c q},lkIs k l ⟨m.fr,m.to,c,q⟩ = false:=Bool.eq_false_iff.2 fun h2=>hne (lkIsK_iff.1 h2)
 have hne2 : ∀ {c q},lkIs m.fr m.to ⟨k,l,c,q⟩ = false:=Bool.eq_false_iff.2 fun h2=>hne (by obtain ⟨a,b⟩:=lkIsK_iff.1 h2; exact ⟨a.symm,b.symm⟩)
 have ef : fndK k l (sndN ls m).1 = fndK k l ls:=by rw [e1]; exact fndK_put hne' ls
 have o1:=dlvN_o (h.valid (by omega)) k l
 have o2:=dlvN_o (ls:=(sndN ls m).1) (by rw [e1]; exact v1.valid (by omega)) k l
 rw [ef] at o2
 refine ⟨by rw [e1],by rw [e1]; exact v1,by rw [o1.1,o2.1],by rw [o1.2,o2.2],fun h0=>?_⟩
 have h02 : (dlvN (sndN ls m).1 k l).2.2 = 0:=by rw [o2.2, ← o1.2,h0]
 obtain ⟨p,r,a1,a2,a3,a4⟩:=dlv_v h (by omega) hk hl h0
 obtain ⟨p',r',b1,b2,b3,b4⟩:=dlv_v (ls:=(sndN ls m).1) (by rw [e1]; exact v1) (by omega) hk hl h02
 rw [ef] at b1 b2
 rw [a2] at b2
 cases b2
 rw [a3,b3]
 dsimp only
 obtain ⟨s1,s2⟩:=snd_v a4 hn hf ht
 refine ⟨a4,by rw [s1], ?_,by rw [s1]; exact s2⟩
 refine NtV.ext b4 (by rw [s1]; exact s2) fun f t=>?_
 rw [s1]
 dsimp only
 rw [e1] at b4 ⊢
 dsimp only at b4 ⊢
 by_cases g1 : k = f ∧ l = t
 · obtain ⟨rfl,rfl⟩:=g1
   rw [fndK_self v1.srt ⟨k,l,false,r⟩,fndK_put hne',fndK_self h.srt ⟨k,l,false,r⟩]
 · have g1' : ∀ {c q},lkIs f t ⟨k,l,c,q⟩ = false:=Bool.eq_false_iff.2 fun h2=>g1 (lkIsK_iff.1 h2)
   rw [fndK_put g1']
   by_cases g2 : m.fr = f ∧ m.to = t
   · obtain ⟨rfl,rfl⟩:=g2
     have z1:=fndK_self h.srt ⟨m.fr,m.to,(fndK m.fr m.to ls).cut,(fndK m.fr m.to ls).q ++ [m]⟩
     have z2:=fndK_self a4.srt ⟨m.fr,m.to,(fndK m.fr m.to (putK ⟨k,l,false,r⟩ ls)).cut,(fndK m.fr m.to (putK ⟨k,l,false,r⟩ ls)).q ++ [m]⟩
     dsimp only at z1 z2
     rw [z1,z2,fndK_put hne2]
   · have g2' : ∀ {c q},lkIs f t ⟨m.fr,m.to,c,q⟩ = false:=Bool.eq_false_iff.2 fun h2=>g2 (lkIsK_iff.1 h2)
     rw [fndK_put g2',fndK_put g2',fndK_put g1']
end
section
abbrev Mp := List ((Int × Int) × Nat)
def mIx (p : Int × Int) : Mp → Nat → Option (Nat × Nat)
 | [],_=>none
 | (q,n) :: r,i=>if p = q then some (i,n) else mIx p r (i + 1)
def mGet (p : Int × Int) (L : Mp) : Nat := match mIx p L 0 with
 | some (_,n)=>n
 | none=>0
def mInc (p : Int × Int) : Mp → Mp
 | []=>[(p,1)]
 | (q,n) :: r=>if p = q then (q,n + 1) :: r else (q,n) :: mInc p r
theorem mIx_shift (p : Int × Int) : ∀ (L : Mp) (i : Nat),mIx p L (i + 1) = (mIx p L i).map fun x => (x.1 + 1,x.2)
 | [],i=>rfl
 | (q,n) :: r,i=>by
   rw [mIx,mIx]
   split
   · rfl
   · exact mIx_shift p r (i + 1)
theorem mGet_cons (p q : Int × Int) (n : Nat) (r : Mp) : mGet p ((q,n) :: r) = if p = q then n else mGet p r := by
 unfold mGet
 by_cases e : p = q
 · rw [mIx,if_pos e,if_pos e]
 · rw [mIx,if_neg e,if_neg e,mIx_shift]
   cases mIx p r 0 <;> rfl
theorem mGet_inc (p q : Int × Int) : ∀ L : Mp,mGet q (mInc p L) = if q = p then mGet p L + 1 else mGet q L
 | []=>by
   rw [mInc,mGet_cons]
   rfl
 | (x,n) :: r=>by
   rw [mInc]
   by_cases e : p = x
   · rw [if_pos e,mGet_cons,mGet_cons,mGet_cons,if_pos e]
     by_cases e2 : q = p
     · rw [if_pos e2,if_pos (by rw [e2,e])]
     · rw [if_neg e2,if_neg (by rw [← e]; exact e2),if_neg (by rw [← e]; exact e2)]
   · rw [if_neg e,mGet_cons,mGet_cons,mGet_cons,if_neg e,mGet_inc p q r]
     by_cases e2 : q = p
     · rw [if_pos e2,if_pos e2,if_neg (by rw [e2]; exact e)]
     · rw [if_neg e2,if_neg e2]
theorem mIx_some {p : Int × Int} : ∀ {L : Mp} {i j n : Nat},mIx p L i = some (j,n) → i ≤ j ∧ L[j - i]? = some (p,n) ∧ L.set (j - i) (p,n + 1) = mInc p L
 | (q,m) :: r,i,j,n,h=>by
   rw [mIx] at h
   split at h
   · rename_i e
     subst e
     simp only [Option.some.injEq,Prod.mk.injEq] at h
     obtain ⟨rfl,rfl⟩:=h
     refine ⟨Nat.le_refl _,by simp, ?_⟩
     rw [mInc,if_pos rfl,Nat.sub_self]
     rfl
   · rename_i e
     obtain ⟨h1,h2,h3⟩:=mIx_some h
     have e1 : j - i = (j - (i + 1)) + 1:=by omega
     refine ⟨by omega,by rw [e1]; exact h2, ?_⟩
     rw [mInc,if_neg e,e1,List.set_cons_succ,h3]
theorem mIx_none {p : Int × Int} : ∀ {L : Mp} {i : Nat},mIx p L i = none → L ++ [(p,1)] = mInc p L
 | [],i,_=>rfl
 | (q,m) :: r,i,h=>by
   rw [mIx] at h
   split at h
   · cases h
   · rename_i e
     rw [mInc,if_neg e,List.cons_append,mIx_none h]
structure Ord (n : Nat) (ls : List Lk) (S G : Mp) : Prop where
 v : NtV n 9 ls
 r : ∀ l ∈ ls,l.fr < 3 ∧ l.to < 3 ∧ (l.fr = l.to → l.cut = false)
 q : ∀ f t : Int,mGet (f,t) G + (fndK f t ls).q.length = mGet (f,t) S ∧ ∀ i m,(fndK f t ls).q[i]? = some m → m.a = ((mGet (f,t) G + i : Nat) : Int)
 b : ∀ p,mGet p S ≤ n
def R3 (n : Int) : Prop := 0 ≤ n ∧ n < 3
theorem R3.r4 {n : Int} (h : R3 n) : R4 n := ⟨h.1,by have := h.2; omega⟩
theorem ntv9 {n c : Nat} {ls : List Lk} (h : NtV n c ls) (hr : ∀ l ∈ ls,l.fr < 3 ∧ l.to < 3) : NtV n 9 ls := by
 refine ⟨h.srt, ?_,h.lk⟩
 have h1 : (ls.map fun l=>l.fr * 3 + l.to).Nodup:=by
   rw [List.Nodup,List.pairwise_map]
   refine List.Pairwise.imp_of_mem ?_ h.srt
   intro a b ha hb hab
   have a1:=(h.lk a ha).1.1
   have a2:=(h.lk a ha).2.1.1
   have a3:=hr a ha
   have b1:=(h.lk b hb).1.1
   have b2:=(h.lk b hb).2.1.1
   have b3:=hr b hb
   rw [befK_iff] at hab
   omega
 have:=Dir.nodup_len (S:=[0,1,2,3,4,5,6,7,8]) h1 (fun x hx=>by
   obtain ⟨l,hl,rfl⟩:=List.mem_map.1 hx
   have a1:=(h.lk l hl).1.1
   have a2:=(h.lk l hl).2.1.1
   have a3:=hr l hl
   simp only [List.mem_cons,List.not_mem_nil,or_false]
   omega)
 simpa using this
theorem ord0 : Ord 0 [] [] [] where
 v:=NtV.nil.mono (Nat.le_refl _) (by omega)
 r l hl:=by cases hl
 q f t:=⟨rfl,fun i m h=>by simp [fndK] at h⟩
 b p:=Nat.le_refl _
theorem Ord.mono {n n' : Nat} {ls : List Lk} {S G : Mp} (h : Ord n ls S G) (hn : n ≤ n') : Ord n' ls S G := ⟨h.v.mono hn (Nat.le_refl _),h.r,h.q,fun p => Nat.le_trans (h.b p) hn⟩
theorem Ord.fcut {n : Nat} {ls : List Lk} {S G : Mp} (h : Ord n ls S G) (a : Int) : (fndK a a ls).cut = false := by
 unfold fndK
 cases hf : ls.find? (lkIs a a) with
 | none=>rfl
 | some l =>
   obtain ⟨e1,e2⟩:=lkIsK_iff.1 (List.find?_some hf)
   exact (h.r l (List.mem_of_find?_eq_some hf)).2.2 (by rw [e1,e2])
theorem Ord.put {n n' : Nat} {ls : List Lk} {S G S' G' : Mp} (h : Ord n ls S G) (hn : n ≤ n') {y : Lk} (hf : R3 y.fr) (ht : R3 y.to) (hy : y.q.length ≤ n') (hm : ∀ m ∈ y.q,m.fr = y.fr ∧ m.to = y.to) (hc : y.fr = y.to → y.cut = false)
   (hq : mGet (y.fr,y.to) G' + y.q.length = mGet (y.fr,y.to) S' ∧ ∀ i m,y.q[i]? = some m → m.a = ((mGet (y.fr,y.to) G' + i : Nat) : Int))
   (ho : ∀ p,p ≠ (y.fr,y.to) → mGet p G' = mGet p G ∧ mGet p S' = mGet p S) (hb : ∀ p,mGet p S' ≤ n') : Ord n' (putK y ls) S' G':=by
 have hr : ∀ l ∈ putK y ls,l.fr < 3 ∧ l.to < 3 ∧ (l.fr = l.to → l.cut = false):=fun l hl=>by
   rcases putK_mem hl with rfl | hl
   · exact ⟨hf.2,ht.2,hc⟩
   · exact h.r l hl
 refine ⟨ntv9 ((h.v.mono hn (Nat.le_refl _)).put hf.r4 ht.r4 hy hm) fun l hl=>⟨(hr l hl).1,(hr l hl).2.1⟩,hr,fun f t=>?_,hb⟩
 by_cases e : (f,t) = (y.fr,y.to)
 · simp only [Prod.mk.injEq] at e
   obtain ⟨rfl,rfl⟩:=e
   rw [fndK_self h.v.srt y]
   exact hq
 · have hne : lkIs f t y = false:=Bool.eq_false_iff.2 fun h2=>e (by obtain ⟨a,b⟩:=lkIsK_iff.1 h2; rw [a,b])
   obtain ⟨h1,h2⟩:=ho (f,t) e
   rw [fndK_put hne,h1,h2]
   exact h.q f t
theorem ord_send {n : Nat} {ls : List Lk} {S G : Mp} (h : Ord n ls S G) (hn : n < 4096) {a b : Int} (ha : R3 a) (hb : R3 b) : (sndN ls ⟨a,b,0,0,0,zOb,(mGet (a,b) S : Nat),0,0,0⟩).2 = 0 ∧ Ord (n + 1) (sndN ls ⟨a,b,0,0,0,zOb,(mGet (a,b) S : Nat),0,0,0⟩).1 (mInc (a,b) S) G := by
 obtain ⟨e1, -⟩:=snd_v h.v hn (m:=⟨a,b,0,0,0,zOb,(mGet (a,b) S : Nat),0,0,0⟩) ha.r4 hb.r4
 have hf:=h.v.fnd a b
 obtain ⟨q1,q2⟩:=h.q a b
 rw [e1]
 refine ⟨rfl,h.put (Nat.le_succ n) ha hb ?_ ?_ ?_ ⟨?_, ?_⟩ (fun p hp=>⟨rfl, ?_⟩) fun p=>?_⟩
 · simp only [List.length_append,List.length_cons,List.length_nil]
   omega
 · intro m hm
   rcases List.mem_append.1 hm with hm | hm
   · exact hf.2 m hm
   · rw [List.mem_singleton.1 hm]
     exact ⟨rfl,rfl⟩
 · intro e
   dsimp only at e ⊢
   rw [e]
   exact h.fcut b
 · dsimp only
   rw [mGet_inc,if_pos rfl,List.length_append, ← q1]
   rfl
 · intro i m hi
   dsimp only at hi ⊢
   by_cases hlt : i < (fndK a b ls).q.length
   · rw [List.getElem?_append_left hlt] at hi
     exact q2 i m hi
   · rw [List.getElem?_append_right (by omega)] at hi
     have h0 : i - (fndK a b ls).q.length = 0:=by
       have:=(List.getElem?_eq_some_iff.1 hi).1
       simp only [List.length_cons,List.length_nil] at this
       omega
     rw [h0] at hi
     simp only [List.getElem?_cons_zero,Option.some.injEq] at hi
     rw [← hi]
     dsimp only
     rw [← q1]
     have : i = (fndK a b ls).q.length:=by omega
     rw [this]
 · rw [mGet_inc,if_neg hp]
 · rw [mGet_inc]
   have:=h.b (a,b)
   have:=h.b p
   split <;> omega
theorem ord_dlv {n : Nat} {ls : List Lk} {S G : Mp} (h : Ord n ls S G) (hn : n ≤ 4096) {a b : Int} (ha : R3 a) (hb : R3 b) :
   ((dlvN ls a b).2.2 = 0 ∧ (dlvN ls a b).1.a = (mGet (a,b) G : Nat) ∧ (dlvN ls a b).1.fr = a ∧ (dlvN ls a b).1.to = b ∧ Ord n (dlvN ls a b).2.1 S (mInc (a,b) G) ∧ fndK a b (dlvN ls a b).2.1 = ⟨a,b,false,(fndK a b ls).q.tail⟩ ∧ (∀ f t,(f,t) ≠ (a,b) → fndK f t (dlvN ls a b).2.1 = fndK f t ls) ∧ mGet (a,b) G < mGet (a,b) S) ∨
   ((dlvN ls a b).2.2 = 6 ∧ mGet (a,b) S = mGet (a,b) G) ∨ ((dlvN ls a b).2.2 = 8 ∧ (fndK a b ls).cut = true):=by
 have o:=(dlvN_o (h.v.valid hn) a b).2
 obtain ⟨q1,q2⟩:=h.q a b
 cases hq : (fndK a b ls).q with
 | nil =>
   right; left
   rw [hq] at q1
   exact ⟨by rw [o]; unfold dlvO; rw [hq],by simpa using q1.symm⟩
 | cons m r =>
   cases hc : (fndK a b ls).cut with
   | true =>
     right; right
     exact ⟨by rw [o]; unfold dlvO; rw [hq,hc]; rfl,rfl⟩
   | false =>
     left
     have h0 : (dlvN ls a b).2.2 = 0:=by rw [o]; unfold dlvO; rw [hq,hc]; rfl
     obtain ⟨m',r', -,e2,e3, -⟩:=dlv_v h.v hn ha.r4 hb.r4 h0
     rw [hq] at e2
     cases e2
     rw [hq] at q1 q2
     have hm:=(h.v.fnd a b).2
     have hl:=(h.v.fnd a b).1
     rw [hq] at hm hl
     rw [e3]
     dsimp only
     have hma:=q2 0 m (by simp)
     obtain ⟨hm1,hm2⟩:=hm m (by simp)
     refine ⟨rfl,by simpa using hma,hm1,hm2, ?_, ?_, ?_, ?_⟩
     · refine h.put (Nat.le_refl n) ha hb ?_ ?_ (fun _=>rfl) ⟨?_, ?_⟩ (fun p hp=>⟨?_,rfl⟩) h.b
       · simp only [List.length_cons] at hl
         dsimp only
         omega
       · exact fun x hx=>hm x (by simp [hx])
       · dsimp only
         rw [mGet_inc,if_pos rfl, ← q1,List.length_cons]
         omega
       · intro i x hi
         dsimp only at hi ⊢
         have:=q2 (i + 1) x (by simpa using hi)
         rw [mGet_inc,if_pos rfl,this]
         congr 1
         omega
       · rw [mGet_inc,if_neg hp]
     · exact fndK_self h.v.srt ⟨a,b,false,r⟩
     · intro f t e
       exact fndK_put (Bool.eq_false_iff.2 fun h2=>e (by obtain ⟨x,y⟩:=lkIsK_iff.1 h2; dsimp only at x y; rw [x,y])) ls
     · rw [← q1,List.length_cons]
       omega
theorem ord_cut {n : Nat} {ls : List Lk} {S G : Mp} (h : Ord n ls S G) (hn : n ≤ 4096) {a b : Int} (ha : R3 a) (hb : R3 b) (k : Bool) :
   ((cutN ls a b k).2 = 0 ∧ a ≠ b ∧ Ord n (cutN ls a b k).1 S G ∧ ∀ f t,fndK f t (cutN ls a b k).1 = if (f = a ∧ t = b) ∨ (f = b ∧ t = a) then ⟨f,t,k,(fndK f t ls).q⟩ else fndK f t ls) ∨ ((cutN ls a b k).2 = 2 ∧ a = b):=by
 unfold cutN
 rw [if_neg (by simp [h.v.valid hn])]
 by_cases e : a = b
 · right
   rw [if_pos (by simp [e])]
   exact ⟨rfl,e⟩
 · left
   rw [if_neg (by simp [R4_ok ha.r4,R4_ok hb.r4,e])]
   dsimp only
   obtain ⟨a1,a2⟩:=fnd_ft (l:=ls) a b
   obtain ⟨b1,b2⟩:=fnd_ft (l:=ls) b a
   rw [a1,a2,b1,b2]
   have fa:=h.v.fnd a b
   have fb:=h.v.fnd b a
   have h1 : Ord n (putK ⟨a,b,k,(fndK a b ls).q⟩ ls) S G:=h.put (Nat.le_refl n) ha hb fa.1 fa.2 (fun e2=>absurd e2 e) (h.q a b) (fun p hp=>⟨rfl,rfl⟩) h.b
   have hne : lkIs b a (⟨a,b,k,(fndK a b ls).q⟩ : Lk) = false:=Bool.eq_false_iff.2 fun h2=>e (lkIsK_iff.1 h2).1
   have hq : fndK b a (putK ⟨a,b,k,(fndK a b ls).q⟩ ls) = fndK b a ls:=fndK_put hne ls
   have h2 : Ord n (putK ⟨b,a,k,(fndK b a ls).q⟩ (putK ⟨a,b,k,(fndK a b ls).q⟩ ls)) S G:=h1.put (Nat.le_refl n) hb ha fb.1 fb.2 (fun e2=>absurd e2.symm e) (h.q b a) (fun p hp=>⟨rfl,rfl⟩) h.b
   refine ⟨rfl,e,h2,fun f t=>?_⟩
   by_cases c1 : f = b ∧ t = a
   · obtain ⟨rfl,rfl⟩:=c1
     rw [if_pos (.inr ⟨rfl,rfl⟩)]
     exact fndK_self h1.v.srt ⟨f,t,k,(fndK f t ls).q⟩
   · rw [fndK_put (Bool.eq_false_iff.2 fun h3=>c1 (by obtain ⟨x,y⟩:=lkIsK_iff.1 h3; exact ⟨x.symm,y.symm⟩))]
     by_cases c2 : f = a ∧ t = b
     · obtain ⟨rfl,rfl⟩:=c2
       rw [if_pos (.inl ⟨rfl,rfl⟩)]
       exact fndK_self h.v.srt ⟨f,t,k,(fndK f t ls).q⟩
     · rw [if_neg (fun c=>c.elim c2 c1)]
       exact fndK_put (Bool.eq_false_iff.2 fun h3=>c2 (by obtain ⟨x,y⟩:=lkIsK_iff.1 h3; exact ⟨x.symm,y.symm⟩)) ls
def dead (f t : Int) (ls : List Lk) : Prop := fndK f t ls = ⟨f,t,false,[]⟩
theorem ord_end {n : Nat} {ls : List Lk} {S G : Mp} (h : Ord n ls S G) (hd : ∀ f t,R3 f → R3 t → dead f t ls) : ls = [] := by
 cases ls with
 | nil=>rfl
 | cons l r =>
   obtain ⟨h1,h2,_,h4,_⟩:=h.v.lk l (by simp)
   obtain ⟨r1,r2,_⟩:=h.r l (by simp)
   have:=hd l.fr l.to ⟨h1.1,r1⟩ ⟨h2.1,r2⟩
   rw [dead,fnd_self h.v.srt l (by simp)] at this
   exact (h4 ⟨by rw [this],by rw [this]⟩).elim
end
section
attribute [-simp] mkv
theorem eqV_arrN {P : Program} {d n : Nat} {t e : TypeId} {xs ys : List AV} (h : P.underlying t = some (.array n e)) : eqV P (d + 1) t (.agg xs) (.agg ys) = if (P.info? e).isSome then eqIs P (eqV P d) e (P.cellsOf e) xs ys (List.range n) else none := by simp only [eqV,h]
theorem eq2h (a b c d : Int) : eqV Try.prog 9 45 (.agg [.int .i64 a, .int .i64 b]) (.agg [.int .i64 c, .int .i64 d]) = some (a == c && (b == d && true)) := by
 have hu : Try.prog.underlying 45 = some (.array 2 3):=by kernel_rfl
 have hi : (Try.prog.info? 3).isSome = true:=by kernel_rfl
 have hc : Try.prog.cellsOf 3 = 1:=by kernel_rfl
 have p0 : ∀ a b : Int,partV Try.prog 3 [.int .i64 a, .int .i64 b] 0 = some (.int .i64 a):=fun a b=>by kernel_rfl
 have p1 : ∀ a b : Int,partV Try.prog 3 [.int .i64 a, .int .i64 b] 1 = some (.int .i64 b):=fun a b=>by kernel_rfl
 have q : ∀ (d : Nat) (a b : Int),eqV Try.prog (d + 1) 3 (.int .i64 a) (.int .i64 b) = some (a == b):=fun d a b=>by simp [eqV,Try.underlying3]
 rw [eqV_arrN hu,if_pos hi,hc]
 show eqIs Try.prog (eqV Try.prog (7 + 1)) 3 1 _ _ [0,1] = _
 simp only [eqIs,Nat.zero_mul,Nat.one_mul,p0,p1,q]
def pk (p : Int × Int) : AV := .agg [.int .i64 p.1, .int .i64 p.2]
def mR (x : (Int × Int) × Nat) : List AV := [pk x.1, .int .u64 (x.2 : Nat)]
theorem keyEq2 (p q : Int × Int) : keyEqX Try.prog 45 (pk p) (pk q) = some (decide (p = q)) := by
 obtain ⟨a,b⟩:=p
 obtain ⟨c,d⟩:=q
 simp only [keyEqX,pk,eq2h,keyIntsV,keyInts,Bool.and_true,List.cons.injEq,Prod.mk.injEq,true_and,and_true]
 have e : (a == c && b == d) = decide (a = c ∧ b = d):=by
   rw [Bool.eq_iff_iff]
   simp
 rw [e,if_pos rfl]
theorem findK_mR (p : Int × Int) : ∀ (L : Mp) (i : Nat),findK Try.prog 45 (pk p) (L.map mR) i = some ((mIx p L i).map fun x => (x.1, .int .u64 (x.2 : Nat)))
 | [],i=>rfl
 | (q,n) :: r,i=>by
   rw [List.map_cons,mR,findK,mIx]
   dsimp only
   rw [keyEq2]
   by_cases e : p = q
   · rw [decide_eq_true e,if_pos e]
     rfl
   · rw [decide_eq_false e,if_neg e]
     exact findK_mR p r (i + 1)
theorem findX_mR (a b : Int) (L : Mp) : findX Try.prog 45 (.array 2 3) (.agg [.int .i64 a, .int .i64 b]) (L.map mR) = some ((mIx (a,b) L 0).map fun x => (x.1, .int .u64 (x.2 : Nat))) := findK_mR (a,b) L 0
theorem keyOKX2 (a b : Int) : keyOKX Try.prog (.array 2 3) (.agg [.int .i64 a, .int .i64 b]) = true := by kernel_rfl
theorem keyOf2 : keyOf Try.prog 59 = some (45,30, .array 2 3) := by kernel_rfl
theorem zeroU : zeroA Try.prog 30 = some (.int .u64 0) := by kernel_rfl
theorem foundM (p : Int × Int) (L : Mp) : foundA Try.prog 30 false (some ((mIx p L 0).map fun x => (x.1,AV.int .u64 (x.2 : Nat)))) = .ret (.int .u64 (mGet p L : Nat)) := by
 unfold mGet
 cases mIx p L 0 with
 | none =>
   simp only [Option.map_none,foundA,zeroU]
   rfl
 | some x=>rfl
theorem found1 (P : Program) (e : TypeId) (i : Nat) (v : AV) : foundA P e false (some (some (i,v))) = .ret v := rfl
theorem found0 : foundA Try.prog 30 false (some none) = .ret (.int .u64 0) := by
 simp only [foundA,zeroU]
 rfl
theorem mrow_some {a b : Int} {S : Mp} {j n : Nat} (h : mIx (a,b) S 0 = some (j,n)) : mGet (a,b) S = n ∧ (S.map mR)[j]? = some [.agg [.int .i64 a, .int .i64 b], .int .u64 (n : Nat)] ∧ (S.map mR).set j [.agg [.int .i64 a, .int .i64 b], .int .u64 (n : Nat)] = S.map mR ∧ (S.map mR).set j [.agg [.int .i64 a, .int .i64 b], .int .u64 ((n : Int) + 1)] = (mInc (a,b) S).map mR := by
 obtain ⟨-,h2,h3⟩:=mIx_some h
 rw [Nat.sub_zero] at h2 h3
 refine ⟨by unfold mGet; rw [h],by rw [List.getElem?_map,h2]; rfl, ?_, ?_⟩
 · rw [show ([.agg [.int .i64 a, .int .i64 b], .int .u64 (n : Nat)] : List AV) = mR ((a,b),n) from rfl, ← List.map_set]
   congr 1
   obtain ⟨q1,q2⟩:=List.getElem?_eq_some_iff.1 h2
   rw [← q2,List.set_getElem_self]
 · rw [show ([.agg [.int .i64 a, .int .i64 b], .int .u64 ((n : Int) + 1)] : List AV) = mR ((a,b),n + 1) from rfl, ← List.map_set,h3]
theorem mIx_app {p : Int × Int} (n : Nat) : ∀ {S : Mp} (i : Nat),mIx p S i = none → mIx p (S ++ [(p,n)]) i = some (i + S.length,n)
 | [],i,_=>by simp [mIx]
 | (q,m) :: r,i,h=>by
   rw [mIx] at h
   split at h
   · cases h
   · rename_i e
     rw [List.cons_append,mIx,if_neg e,mIx_app n (i + 1) h,List.length_cons]
     simp only [Option.some.injEq,Prod.mk.injEq,and_true]
     omega
theorem mrow_none {a b : Int} {S : Mp} (h : mIx (a,b) S 0 = none) : mGet (a,b) S = 0 ∧ findX Try.prog 45 (.array 2 3) (.agg [.int .i64 a, .int .i64 b]) (S.map mR ++ ([[.agg [.int .i64 a, .int .i64 b], .int .u64 0]] : List (List AV))) = some (some (S.length, .int .u64 0)) ∧ (S.map mR ++ ([[.agg [.int .i64 a, .int .i64 b], .int .u64 0]] : List (List AV)))[S.length]? = some [.agg [.int .i64 a, .int .i64 b], .int .u64 0] ∧ (S.map mR ++ ([[.agg [.int .i64 a, .int .i64 b], .int .u64 0]] : List (List AV))).set S.length [.agg [.int .i64 a, .int .i64 b], .int .u64 1] = (mInc (a,b) S).map mR := by
 have h3:=mIx_none h
 refine ⟨by unfold mGet; rw [h], ?_,by rw [List.getElem?_append_right (by simp)]; simp, ?_⟩
 · rw [show (S.map mR ++ ([[.agg [.int .i64 a, .int .i64 b], .int .u64 0]] : List (List AV))) = (S ++ [((a,b),0)]).map mR by simp [mR,pk],findX_mR,mIx_app 0 0 h]
   simp
 rw [← h3,List.map_append,List.set_append,if_neg (by simp)]
 simp [mR,pk]
end
section
attribute [local simp] instA slice3A slice3C
attribute [-simp] mkv
attribute [local simp] mkv_hd hdA_cons hdA_ob hdA_ob'
noncomputable def pry_specs : NL Spec := [(15,⟨1,vkS⟩)]
theorem pry_specs_ok : ∀ p ∈ pry_specs,FnC Try.prog p.1 p.2.fn := by
 simp only [pry_specs,List.mem_cons,List.not_mem_nil,or_false]
 rintro p rfl
 exact vap2_ok
attribute [local simp] pry_specs
theorem pry_ok : FnC Try.prog 13 rdyS := by
 refine FnC.walkN 13 (fn:=Try.f13) [61] Try.func13 rfl (by kernel_rfl) (fun x=>?_) (fun x=>⟨_,rdy_nrmR _⟩)
 obtain ⟨l,hl,he⟩:=x
 have cv:=vkS_eq ⟨l,hl,he⟩
 simp only [Nts.v] at cv
 change W _ (RetNf _ _ _ (.list 2 ((rdyN l).map pC)) []) _ _ ⟨35,[(0, .agg [.list 4 (l.map lkC)])],[]⟩
 generalize hR : rdyN l = R
 unfold rdyN at hR
 have cap : l.length ≤ 9223372036854775807:=by omega
 cases hv : validK l with
 | false =>
   rw [if_pos hv] at hR
   subst hR
   rw [hv] at cv
   repeat' (first | intro (hb : _ = _) | refine ZV ?_ | refine ZB tm pry_specs_ok ?_ | refine ZH ?_ ?_ | refine ZJ (by conv=>lhs; simp [cv]) ?_ | refine ZA ?_ ?_)
   refine Ye ?_
   exact rdy_nrm0
 | true =>
   rw [if_neg (by simp [hv])] at hR
   rw [hv] at cv
   repeat' (first | intro (hb : _ = _) | refine ZV ?_ | refine ZB (id:=0) tm pry_specs_ok ?_ | refine ZB (id:=1) tm pry_specs_ok ?_ | refine ZB (id:=2) tm pry_specs_ok ?_ | refine ZB (id:=3) tm pry_specs_ok ?_ | refine ZB (id:=4) tm pry_specs_ok ?_ | refine ZH ?_ ?_ | refine ZJ (by conv=>lhs; simp [cv,cap]) ?_ | refine ZA ?_ ?_)
   refine W.phantom (t:=3) 20000 45 2 true (by rfl) (by rfl) (by decide) ?_
   refine W.loop rfl (ι:={ q : Nat × List (Int × Int) × Nat × NL ABlk // q.1 ≤ l.length ∧ q.2.1 ++ rdyL (l.drop q.1) = R ∧ q.2.1.length ≤ q.1 ∧ lk q.2.2.2 20000 = some { gen:=q.2.2.1,kind:=2,elem:=45,size:=2,inl:=true,rows:=q.2.1.map pC } })
     (fun q=>⟨35,[(3, .sl 20000 q.1.2.2.1 0 q.1.2.1.length),(10, .list 4 (l.map lkC)),(11, .int .i64 l.length),(12, .int .i64 (q.1.1 : Nat))],q.1.2.2.2⟩) (fun q=>l.length - q.1.1)
     ⟨(0,[],0,_),by simp,by simpa using hR,by simp,by simp [lk,lk_st]⟩ (AS.le_of rfl ⟨rfl,rfl,rfl,rfl,trivial⟩ (fun _=>rfl)) ?_
   clear cv hR
   rintro ⟨⟨k,T,g,H⟩,hk,res,hT,gM⟩
   dsimp only at hk res hT gM ⊢
   by_cases hk2 : k = l.length
   · subst hk2
     rw [List.drop_length] at res
     have res : T = R:=by simpa [rdyL] using res
     subst res
     have tT : List.take T.length (T.map pC) = T.map pC:=List.take_of_length_le (by simp)
     repeat' (first | intro (hb : _ = _) | refine ZV ?_ | refine ZB tm pry_specs_ok ?_ | refine ZH ?_ ?_ | refine ZJ (by conv=>lhs; simp) ?_ | refine ZA ?_ ?_)
     refine RetNf.dataE rfl (by conv=>lhs; simp) (by conv=>lhs; simp [frqT,frqV,frqL,frq1,frz1,AP.run,gM,tT]) (by first | rfl | simp [inlT,inlV]) ?_
     exact rdy_nrmR T
   · have hlt : k < l.length:=by omega
     obtain ⟨e,hr⟩:=get_lt hlt
     have hm : (l.map lkC)[k]? = some (lkC e):=by rw [List.getElem?_map,hr]; rfl
     have hd : l.drop k = e :: l.drop (k + 1):=by
       obtain ⟨h1,h2⟩:=List.getElem?_eq_some_iff.1 hr
       rw [List.drop_eq_getElem_cons h1,h2]
     rw [hd] at res
     have capq : e.q.length ≤ 9223372036854775807:=by have:=he e (List.mem_of_getElem? hr); unfold okK at this; omega
     have q1 : (k : Int) < l.length:=by omega
     have q2 : ¬ l.length ≤ k:=by omega
     have hw : IntKind.i64.wrap ((k : Int) + 1) = ((k + 1 : Nat) : Int):=w64 (by omega) (by omega)
     obtain ⟨e1,e2,e3,q⟩:=e
     simp only [lkC] at hm
     have hne : e3 = false → 0 < q.length:=fun h3=>by
       have:=lkB_ne (valid_mem hv hr)
       cases q with
       | nil=>exact absurd ⟨h3,rfl⟩ this
       | cons a r=>exact Nat.succ_pos _
     clear hd hr
     cases e3 with
     | true =>
       have res : T ++ rdyL (l.drop (k + 1)) = R:=by rw [← res]; rfl
       repeat' (first | intro (hb : _ = _) | refine ZV ?_ | refine ZB tm pry_specs_ok ?_ | refine ZH ?_ ?_ | refine ZJ (by conv=>lhs; simp [q1,q2,hm,hw]) ?_ | refine ZA ?_ ?_)
       exact ⟨⟨(k + 1,T,g,_),hlt,res,by dsimp only; omega,by simp [lk_st,gM]⟩,by dsimp only; omega,AS.le_of rfl ⟨rfl,rfl,rfl,rfl,trivial⟩ (fun _=>rfl)⟩
     | false =>
       have hne:=hne rfl
       have hne' : (0 : Int) < q.length:=by omega
       have res : (T ++ [(e1,e2)]) ++ rdyL (l.drop (k + 1)) = R:=by rw [← res,List.append_assoc]; rfl
       have hrow : T.map pC ++ [[.int .i64 e1, .int .i64 e2]] = (T ++ [(e1,e2)]).map pC:=by simp [pC]
       have hl2 : (T ++ [(e1,e2)]).length = T.length + 1:=by simp
       have y1 : T.length ≤ maxLen:=by simp only [maxLen]; omega
       have y2 : (T.length + 1) * 16 ≤ 140737488355328:=by omega
       have y4 : T.length + 1 ≤ maxLen:=by simp only [maxLen]; omega
       have fT : firstRows T.length (T.map pC) = T.map pC:=first_all (by simp)
       generalize T ++ [(e1,e2)] = T2 at *
       have hT2 : T2.length ≤ k + 1:=by omega
       repeat' (first | intro (hb : _ = _) | refine ZV ?_ | refine ZB tm pry_specs_ok ?_ | refine ZH ?_ ?_ | refine ZJ (by conv=>lhs; simp [q1,q2,hm,hw,gM,y1,y2,y4,fT,hrow,m1,hne,hne',capq]) ?_ | refine ZA ?_ ?_)
       exact ⟨⟨(k + 1,T2,g + 1,_),hlt,res,hT2,by simp [lk_st]⟩,by dsimp only; omega,AS.le_of rfl ⟨by simp [lk,hl2],rfl,rfl,rfl,trivial⟩ (fun _=>rfl)⟩
end
end Go.Abs.Nn
