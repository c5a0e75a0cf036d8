/- The program's networks: what changing a link gives. Conditions: none. -/
import Derived.Test.YtphclapfniepoaaGreatNx4
import Derived.Test.YtphclapfniepoaaGreatNx3
namespace Go.Abs.Nx
open Go Go.Proofs Go.Abs
set_option maxRecDepth 100000
set_option maxHeartbeats 4000000
set_option linter.unusedSimpArgs false
set_option linter.unusedVariables false
section
abbrev NtS := {d : Nts // SrtK d.ls ∧ d.ls.length ≤ 8999}
theorem NtS.inj {a b : NtS} (h : a.1.ls = b.1.ls) : a = b := by
 obtain ⟨⟨l,h1,h2⟩,h3⟩:=a
 obtain ⟨⟨l',h1',h2'⟩,h3'⟩:=b
 cases h
 rfl
theorem fndK_at {l : List Lk} {f t : Int} (hh : hasN l (bsN l f t) f t = true) : ∃ x,l[bsN l f t]? = some x := by
 unfold hasN at hh
 cases h : l[bsN l f t]? with
 | none=>rw [h] at hh; cases hh
 | some x=>exact ⟨x,rfl⟩
noncomputable def sndL (l : List Lk) (f t : Int) (m : Msg) : List Lk := putK { fndK f t l with q := (fndK f t l).q ++ [m] } l
def encCS (d : NtS × Int × Int × Msg) : List AV × List ABlk := ([.agg [.list 4 (d.1.1.ls.map lkC)], .int .i64 d.2.1, .int .i64 d.2.2.1, .fn (.func 31) [] [.ptr 0 0 0 0]],[mB d.2.2.2])
noncomputable def chsS : SpecFn := mkS2 encCS fun d => (.agg [.list 4 ((sndL d.1.1.ls d.2.1 d.2.2.1 d.2.2.2).map lkC)],[mB d.2.2.2])
theorem chsS_eq (d : NtS) (f t : Int) (m : Msg) : chsS [.agg [.list 4 (d.1.ls.map lkC)], .int .i64 f, .int .i64 t, .fn (.func 31) [] [.ptr 0 0 0 0]] [mB m] = some (.agg [.list 4 ((sndL d.1.ls f t m).map lkC)],[mB m]) :=
 mkS2_eq (enc:=encCS) (res:=fun d=>(.agg [.list 4 ((sndL d.1.1.ls d.2.1 d.2.2.1 d.2.2.2).map lkC)],[mB d.2.2.2])) (fun x y h=>by
   obtain ⟨a,b,c,m⟩:=x
   obtain ⟨a',b',c',m'⟩:=y
   simp only [encCS,Prod.mk.injEq,List.cons.injEq,AV.agg.injEq,AV.list.injEq,AV.int.injEq,true_and,and_true] at h
   obtain ⟨⟨h1,rfl,rfl⟩,h2⟩:=h
   rw [NtS.inj (lks_inj h1),mB_inj h2]) (d,f,t,m)
theorem chs_ok : FnC Tryz.prog 30 chsS := by
 refine FnC.walkBN 30 (fn:=Tryz.f30) [24] Tryz.func30 rfl (by kernel_rfl) (fun x b hb=>by simp [encCS] at hb; rw [hb]; rfl) (fun d=>?_) (fun d=>⟨_,lks_nrm _⟩)
 obtain ⟨⟨⟨l,lh,lq⟩,hs,l8⟩,f,t,m⟩:=d
 dsimp only at hs l8
 change W _ (RetBN _ _ _ 1 (.agg [.list 4 ((sndL l f t m).map lkC)]) [mB m]) _ _ ⟨59,[(0, .agg [.list 4 (l.map lkC)]),(1, .int .i64 f),(2, .int .i64 t),(3, .fn (.func 31) [] [.ptr 0 0 0 0])],[(0,mB m)]⟩
 cases hh : hasN l (bsN l f t) f t with
 | true =>
   obtain ⟨x,hx⟩:=fndK_at hh
   obtain ⟨e1,e2,e3,e4⟩:=chg_found hs hx hh
   have e5:=e4 { x with q:=x.q ++ [m] } e2 e3
   rw [sndL,e1, ← e5]
   exact chSQ_w l l8 lq f t _ rfl x hx hh m _ rfl
 | false =>
   obtain ⟨e1,e4⟩:=chg_none hs hh
   have e5:=e4 ⟨f,t,false,[]⟩ ⟨f,t,false,[m]⟩ rfl rfl
   rw [sndL,e1]
   show W _ (RetBN _ _ _ 1 (.agg [.list 4 ((putK ⟨f,t,false,[m]⟩ l).map lkC)]) [mB m]) _ _ _
   rw [← e5]
   exact chSN_w l l8 lq f t _ rfl hh (bsN_le _ _ _) _ rfl _ rfl m _ rfl
def encCD (d : {d : (NtS × Int × Int) × Msg × List Msg // (fndK d.1.2.1 d.1.2.2 d.1.1.1.ls).q = d.2.1 :: d.2.2}) : List AV × List ABlk := ([.agg [.list 4 (d.1.1.1.1.ls.map lkC)], .int .i64 d.1.1.2.1, .int .i64 d.1.1.2.2, .fn (.func 35) [] [.ptr 0 0 0 0]],[mzB])
noncomputable def dlvL (l : List Lk) (f t : Int) (r : List Msg) : List Lk := putK { fndK f t l with q := r } l
noncomputable def chdS : SpecFn := mkS2 encCD fun d => (.agg [.list 4 ((dlvL d.1.1.1.1.ls d.1.1.2.1 d.1.1.2.2 d.1.2.2).map lkC)],[mB d.1.2.1])
theorem chdS_eq (d : NtS) (f t : Int) (m : Msg) (r : List Msg) (h : (fndK f t d.1.ls).q = m :: r) : chdS [.agg [.list 4 (d.1.ls.map lkC)], .int .i64 f, .int .i64 t, .fn (.func 35) [] [.ptr 0 0 0 0]] [mzB] = some (.agg [.list 4 ((dlvL d.1.ls f t r).map lkC)],[mB m]) :=
 mkS2_eq (enc:=encCD) (res:=fun d=>(.agg [.list 4 ((dlvL d.1.1.1.1.ls d.1.1.2.1 d.1.1.2.2 d.1.2.2).map lkC)],[mB d.1.2.1])) (fun x y h=>by
   obtain ⟨⟨⟨a,b,c⟩,m,r⟩,hx⟩:=x
   obtain ⟨⟨⟨a',b',c'⟩,m',r'⟩,hy⟩:=y
   simp only [encCD,Prod.mk.injEq,List.cons.injEq,AV.agg.injEq,AV.list.injEq,AV.int.injEq,true_and,and_true] at h
   obtain ⟨h1,rfl,rfl⟩:=h
   cases NtS.inj (lks_inj h1)
   dsimp only at hx hy
   rw [hx] at hy
   cases hy
   rfl) ⟨((d,f,t),m,r),h⟩
theorem chd_ok : FnC Tryz.prog 30 chdS := by
 refine FnC.walkBN 30 (fn:=Tryz.f30) [24] Tryz.func30 rfl (by kernel_rfl) (fun x b hb=>by simp [encCD] at hb; rw [hb]; rfl) (fun d=>?_) (fun d=>⟨_,lks_nrm _⟩)
 obtain ⟨⟨⟨⟨⟨l,lh,lq⟩,hs,l8⟩,f,t⟩,m,r⟩,hq⟩:=d
 dsimp only at hs l8 hq
 change W _ (RetBN _ _ _ 1 (.agg [.list 4 ((dlvL l f t r).map lkC)]) [mB m]) _ _ ⟨59,[(0, .agg [.list 4 (l.map lkC)]),(1, .int .i64 f),(2, .int .i64 t),(3, .fn (.func 35) [] [.ptr 0 0 0 0])],[(0,mzB)]⟩
 cases hh : hasN l (bsN l f t) f t with
 | true =>
   obtain ⟨x,hx⟩:=fndK_at hh
   obtain ⟨e1,e2,e3,e4⟩:=chg_found hs hx hh
   have e5:=e4 { x with q:=r } e2 e3
   rw [e1] at hq
   rw [dlvL,e1, ← e5]
   exact chDQ_w l l8 lq f t _ rfl x hx hh m r hq _ rfl
 | false =>
   obtain ⟨e1,e4⟩:=chg_none hs hh
   rw [e1] at hq
   cases hq
def encCC (d : NtS × Int × Int × Bool) : List AV × List ABlk := ([.agg [.list 4 (d.1.1.ls.map lkC)], .int .i64 d.2.1, .int .i64 d.2.2.1, .fn (.func 36) [] [.ptr 0 0 0 0]],[cB d.2.2.2])
noncomputable def cutL (l : List Lk) (f t : Int) (c : Bool) : List Lk := putK { fndK f t l with cut := c } l
noncomputable def chcS : SpecFn := mkS2 encCC fun d => (.agg [.list 4 ((cutL d.1.1.ls d.2.1 d.2.2.1 d.2.2.2).map lkC)],[cB d.2.2.2])
theorem chcS_eq (d : NtS) (f t : Int) (c : Bool) : chcS [.agg [.list 4 (d.1.ls.map lkC)], .int .i64 f, .int .i64 t, .fn (.func 36) [] [.ptr 0 0 0 0]] [cB c] = some (.agg [.list 4 ((cutL d.1.ls f t c).map lkC)],[cB c]) :=
 mkS2_eq (enc:=encCC) (res:=fun d=>(.agg [.list 4 ((cutL d.1.1.ls d.2.1 d.2.2.1 d.2.2.2).map lkC)],[cB d.2.2.2])) (fun x y h=>by
   obtain ⟨a,b,c,m⟩:=x
   obtain ⟨a',b',c',m'⟩:=y
   simp only [encCC,cB,Prod.mk.injEq,List.cons.injEq,AV.agg.injEq,AV.list.injEq,AV.int.injEq,ABlk.mk.injEq,AV.bool.injEq,true_and,and_true] at h
   obtain ⟨⟨h1,rfl,rfl⟩,rfl⟩:=h
   rw [NtS.inj (lks_inj h1)]) (d,f,t,c)
theorem chc_ok : FnC Tryz.prog 30 chcS := by
 refine FnC.walkBN 30 (fn:=Tryz.f30) [24] Tryz.func30 rfl (by kernel_rfl) (fun x b hb=>by simp [encCC] at hb; rw [hb]; rfl) (fun d=>?_) (fun d=>⟨_,lks_nrm _⟩)
 obtain ⟨⟨⟨l,lh,lq⟩,hs,l8⟩,f,t,c⟩:=d
 dsimp only at hs l8
 change W _ (RetBN _ _ _ 1 (.agg [.list 4 ((cutL l f t c).map lkC)]) [cB c]) _ _ ⟨59,[(0, .agg [.list 4 (l.map lkC)]),(1, .int .i64 f),(2, .int .i64 t),(3, .fn (.func 36) [] [.ptr 0 0 0 0])],[(0,cB c)]⟩
 cases hh : hasN l (bsN l f t) f t with
 | true =>
   obtain ⟨x,hx⟩:=fndK_at hh
   obtain ⟨e1,e2,e3,e4⟩:=chg_found hs hx hh
   have e5:=e4 { x with cut:=c } e2 e3
   rw [cutL,e1, ← e5]
   exact chCQ_w l l8 lq f t _ rfl x hx hh c _ rfl
 | false =>
   obtain ⟨e1,e4⟩:=chg_none hs hh
   have e5:=e4 ⟨f,t,false,[]⟩ ⟨f,t,c,[]⟩ rfl rfl
   rw [cutL,e1]
   show W _ (RetBN _ _ _ 1 (.agg [.list 4 ((putK ⟨f,t,c,[]⟩ l).map lkC)]) [cB c]) _ _ _
   rw [← e5]
   exact chCN_w l l8 lq f t _ rfl hh (bsN_le _ _ _) _ rfl _ rfl c _ rfl
def encCF (d : {d : NtS × Int × Int // hasN d.1.1.ls (bsN d.1.1.ls d.2.1 d.2.2) d.2.1 d.2.2 = true}) : List AV × List ABlk := ([.agg [.list 4 (d.1.1.1.ls.map lkC)], .int .i64 d.1.2.1, .int .i64 d.1.2.2, .fn (.func 39) [] []],[])
noncomputable def fgtL1 (l : List Lk) (f t : Int) : List Lk := putK { fndK f t l with q := [] } l
noncomputable def chfS : SpecFn := mkS2 encCF fun d => (.agg [.list 4 ((fgtL1 d.1.1.1.ls d.1.2.1 d.1.2.2).map lkC)],[])
theorem chfS_eq (d : NtS) (f t : Int) (h : hasN d.1.ls (bsN d.1.ls f t) f t = true) : chfS [.agg [.list 4 (d.1.ls.map lkC)], .int .i64 f, .int .i64 t, .fn (.func 39) [] []] [] = some (.agg [.list 4 ((fgtL1 d.1.ls f t).map lkC)],[]) :=
 mkS2_eq (enc:=encCF) (res:=fun d=>(.agg [.list 4 ((fgtL1 d.1.1.1.ls d.1.2.1 d.1.2.2).map lkC)],([] : List ABlk))) (fun x y h=>by
   obtain ⟨⟨a,b,c⟩,hx⟩:=x
   obtain ⟨⟨a',b',c'⟩,hy⟩:=y
   simp only [encCF,Prod.mk.injEq,List.cons.injEq,AV.agg.injEq,AV.list.injEq,AV.int.injEq,true_and,and_true] at h
   obtain ⟨h1,rfl,rfl⟩:=h
   cases NtS.inj (lks_inj h1)
   rfl) ⟨(d,f,t),h⟩
theorem chf_ok : FnC Tryz.prog 30 chfS := by
 refine FnC.walkBN 30 (fn:=Tryz.f30) [24] Tryz.func30 rfl (by kernel_rfl) (fun x b hb=>by simp [encCF] at hb) (fun d=>?_) (fun d=>⟨_,lks_nrm _⟩)
 obtain ⟨⟨⟨⟨l,lh,lq⟩,hs,l8⟩,f,t⟩,hh⟩:=d
 dsimp only at hs l8 hh
 change W _ (RetBN _ _ _ 0 (.agg [.list 4 ((fgtL1 l f t).map lkC)]) []) _ _ ⟨59,[(0, .agg [.list 4 (l.map lkC)]),(1, .int .i64 f),(2, .int .i64 t),(3, .fn (.func 39) [] [])],[]⟩
 obtain ⟨x,hx⟩:=fndK_at hh
 obtain ⟨e1,e2,e3,e4⟩:=chg_found hs hx hh
 have e5:=e4 { x with q:=[] } e2 e3
 rw [fgtL1,e1, ← e5]
 exact chFQ_w l l8 lq f t _ rfl x hx hh _ rfl
end
section
attribute [local simp] instA slice3A slice3C
attribute [-simp] mkv
attribute [local simp] mkv_hd hdA_cons hdA_ob hdA_ob'
def rN (l : List Lk) (e : Int) : AV := .tup [.agg [.list 4 (l.map lkC)], .int .i64 e]
theorem rN_nrm (l : List Lk) (e : Int) : nrmR Tryz.prog [24,56] (rN l e) = rN l e := by
 simp only [rN,nrmR,nrmL,nrmV,nwLeafs,uK,nrmRows_map lkC_nrm]
theorem rN_nrm0 (e : Int) : nrmR Tryz.prog [24,56] (.tup [.agg [.nils], .int .i64 e]) = rN [] e := by
 simp only [rN,nrmR,nrmL,nrmV,nwLeafs,uK,cK,List.map_nil]
noncomputable def sndN (ls : List Lk) (m : Msg) : List Lk × Int :=
 if validK ls = false then ([],1) else if (!okN m.fr || !okN m.to) = true then ([],2) else
   let l:=fndK m.fr m.to ls
   if 4096 ≤ l.q.length then ([],9) else (putK ⟨l.fr,l.to,l.cut,l.q ++ [m]⟩ ls,0)
noncomputable def sdkS : SpecFn := mkS (fun d : Nts × Msg => [d.1.v, .agg d.2.v]) fun d => (rN (sndN d.1.ls d.2).1 (sndN d.1.ls d.2).2,[])
theorem msgv1_inj {a b : Msg} (h : a.v = b.v) : a = b := by
 have:=msgv_inj (l:=[a]) (m:=[b]) (by simp only [List.map_cons,List.map_nil,h])
 simpa using this
theorem sdkS_eq (d : Nts) (m : Msg) : sdkS [d.v, .agg m.v] [] = some (rN (sndN d.ls m).1 (sndN d.ls m).2,[]) :=
 mkS_eq (enc:=fun d : Nts × Msg=>[d.1.v,AV.agg d.2.v]) (res:=fun d=>(rN (sndN d.1.ls d.2).1 (sndN d.1.ls d.2).2,[])) (fun x y h=>by
   obtain ⟨a,b⟩:=x
   obtain ⟨a',b'⟩:=y
   simp only [List.cons.injEq,AV.agg.injEq,and_true] at h
   cases Nts.v_inj h.1
   cases msgv1_inj h.2
   rfl) (d,m)
theorem fndK_ok {ls : List Lk} (he : ∀ l ∈ ls,okK l) (f t : Int) : okK (fndK f t ls) := by
 unfold fndK
 cases hf : ls.find? (lkIs f t) with
 | none=>exact Nat.zero_le _
 | some e=>exact he e (List.mem_of_find?_eq_some hf)
noncomputable def sdk_specs : NL Spec := [(22,⟨1,vkS⟩),(32,⟨1,boS okN⟩),(33,⟨1,fnkS⟩),(34,⟨1,ptlS⟩)]
theorem sdk_specs_ok : ∀ p ∈ sdk_specs,FnC Tryz.prog p.1 p.2.fn := by
 simp only [sdk_specs,List.mem_cons,List.not_mem_nil,or_false]
 rintro p (rfl | rfl | rfl | rfl)
 · exact rvk21_ok
 · exact nnode_ok
 · exact fnk_ok
 · exact ptl_ok
attribute [local simp] sdk_specs
theorem sdk_ok : FnC Tryz.prog 10 sdkS := by
 refine FnC.walkN 10 (fn:=Tryz.f10) [24,56] Tryz.func10 rfl (by kernel_rfl) (fun x=>?_) (fun x=>⟨_,rN_nrm _ _⟩)
 obtain ⟨⟨l,hl,he⟩,⟨u1,u2,u3,u4,u5,mo,u6,u7,u8,u9⟩⟩:=x
 have cv:=vkS_eq ⟨l,hl,he⟩
 have c1:=boS_eq okN u1
 have c2:=boS_eq okN u2
 have ce:=fnkS_eq ⟨l,hl,he⟩ u1 u2
 simp only [Nts.v] at cv ce
 change W _ (RetNf _ _ _ (rN (sndN l ⟨u1,u2,u3,u4,u5,mo,u6,u7,u8,u9⟩).1 (sndN l ⟨u1,u2,u3,u4,u5,mo,u6,u7,u8,u9⟩).2) []) _ _ ⟨43,[(0, .agg [.list 4 (l.map lkC)]),(1, .agg (.int .i64 u1 :: .int .i64 u2 :: .int .i64 u3 :: .int .u64 u4 :: .int .i64 u5 :: (mo.cells ++ [.int .u64 u6, .int .i64 u7, .int .u64 u8, .int .i64 u9])))],[]⟩
 generalize hR : sndN l ⟨u1,u2,u3,u4,u5,mo,u6,u7,u8,u9⟩ = R
 unfold sndN at hR
 dsimp only at hR
 cases hv : validK l with
 | false =>
   rw [if_pos hv] at hR
   subst hR
   rw [hv] at cv
   repeat' (first | intro (hb : _ = _) | refine ZV ?_ | refine ZB tm sdk_specs_ok ?_ | refine ZH ?_ ?_ | refine ZJ (by conv=>lhs; simp [cv]) ?_ | refine ZA ?_ ?_)
   refine Ye ?_
   exact rN_nrm0 1
 | true =>
   rw [if_neg (by simp [hv])] at hR
   rw [hv] at cv
   cases hn1 : okN u1 with
   | false =>
     rw [if_pos (by simp [hn1])] at hR
     subst hR
     rw [hn1] at c1
     repeat' (first | intro (hb : _ = _) | refine ZV ?_ | refine ZB tm sdk_specs_ok ?_ | refine ZH ?_ ?_ | refine ZJ (by conv=>lhs; simp [cv,c1]) ?_ | refine ZA ?_ ?_)
     refine Ye ?_
     exact rN_nrm0 2
   | true =>
     rw [hn1] at c1
     cases hn2 : okN u2 with
     | false =>
       rw [if_pos (by simp [hn2])] at hR
       subst hR
       rw [hn2] at c2
       repeat' (first | intro (hb : _ = _) | refine ZV ?_ | refine ZB tm sdk_specs_ok ?_ | refine ZH ?_ ?_ | refine ZJ (by conv=>lhs; simp [cv,c1,c2]) ?_ | refine ZA ?_ ?_)
       refine Ye ?_
       exact rN_nrm0 2
     | true =>
       rw [hn2] at c2
       rw [if_neg (by simp [hn1,hn2])] at hR
       have oe:=fndK_ok he u1 u2
       generalize fndK u1 u2 l = e at *
       obtain ⟨e1,e2,e3,q⟩:=e
       unfold okK at oe
       dsimp only at oe hR
       simp only [lkC] at ce
       have y4 : q.length ≤ 9223372036854775807:=by omega
       by_cases hb : 4096 ≤ q.length
       · rw [if_pos hb] at hR
         subst hR
         have b1 : (4096 : Int) ≤ q.length:=by omega
         repeat' (first | intro (hb : _ = _) | refine ZV ?_ | refine ZB tm sdk_specs_ok ?_ | refine ZH ?_ ?_ | refine ZJ (by conv=>lhs; simp [cv,c1,c2,ce,y4,b1]) ?_ | refine ZA ?_ ?_)
         refine Ye ?_
         exact rN_nrm0 9
       · rw [if_neg hb] at hR
         have b1 : ¬ (4096 : Int) ≤ q.length:=by omega
         obtain ⟨Q,hQ⟩ : ∃ Q,q ++ [(⟨u1,u2,u3,u4,u5,mo,u6,u7,u8,u9⟩ : Msg)] = Q:=⟨_,rfl⟩
         have hQl : Q.length = q.length + 1:=by rw [← hQ]; simp
         have hQm : q.map Msg.v ++ [.int .i64 u1 :: .int .i64 u2 :: .int .i64 u3 :: .int .u64 u4 :: .int .i64 u5 :: (mo.cells ++ [.int .u64 u6, .int .i64 u7, .int .u64 u8, .int .i64 u9])] = Q.map Msg.v:=by rw [← hQ]; simp
         rw [hQ] at hR
         have cP:=ptlS_eq ⟨⟨l,hl,he⟩,⟨e1,e2,e3,Q⟩,by unfold okK; dsimp only; omega⟩
         simp only [Nts.v,lkC] at cP
         generalize putK ⟨e1,e2,e3,Q⟩ l = L at *
         subst hR
         have y5 : q.length * 536 ≤ 140737488355328:=by omega
         have y1 : q.length ≤ maxLen:=by simp only [maxLen]; omega
         have y2 : (q.length + 1) * 536 ≤ 140737488355328:=by omega
         have y3 : q.length + 1 ≤ maxLen:=by simp only [maxLen]; omega
         have fq : firstRows q.length (q.map Msg.v) = q.map Msg.v:=first_all (by simp)
         have tq : List.take q.length (q.map Msg.v) = q.map Msg.v:=List.take_of_length_le (by simp)
         have t4 : List.take (q.length + 1) (Q.map Msg.v) = Q.map Msg.v:=List.take_of_length_le (by simp; omega)
         clear hb hQ oe hn1 hn2 hv
         repeat' (first | intro (hb : _ = _) | refine ZV ?_ | refine ZB tm sdk_specs_ok ?_ | refine ZH ?_ ?_ | refine ZJ (by conv=>lhs; simp [cv,c1,c2,ce,b1,y1,y2,y3,y4,y5,fq,tq,t4,hQl,hQm,m1,cP]) ?_ | refine ZA ?_ ?_)
         refine Ye ?_
         exact rN_nrm L 0
noncomputable def mz : Msg := ⟨0,0,0,0,0,zOb,0,0,0,0⟩
def rDl (m : Msg) (l : List Lk) (e : Int) : AV := .tup [.agg m.v, .agg [.list 4 (l.map lkC)], .int .i64 e]
theorem rDl_nrm (m : Msg) (l : List Lk) (e : Int) : nrmR Tryz.prog [46,24,56] (rDl m l e) = rDl m l e := by
 simp only [rDl,nrmR,nrmL,nrmV,msg_nrm,nwLeafs,uK,nrmRows_map lkC_nrm]
theorem rDl_nrm0 (e : Int) : nrmR Tryz.prog [46,24,56] (.tup [.agg (.int .i64 0 :: .int .i64 0 :: .int .i64 0 :: .int .u64 0 :: .int .i64 0 :: (zO ++ [.int .u64 0, .int .i64 0, .int .u64 0, .int .i64 0])), .agg [.nils], .int .i64 e]) = rDl mz [] e := by
 simp only [rDl,nrmR,nrmL,nrmV,msg_nrm0,nwLeafs,uK,cK,List.map_nil,mz]
noncomputable def dlvN (ls : List Lk) (f t : Int) : Msg × List Lk × Int :=
 if validK ls = false then (mz,[],1) else
   let l:=fndK f t ls
   match l.q with
   | []=>(mz,[],6)
   | m :: r=>if l.cut then (mz,[],8) else (m,putK ⟨l.fr,l.to,l.cut,r⟩ ls,0)
noncomputable def dlvS : SpecFn := mkS (fun d : Nts × Int × Int => [d.1.v, .int .i64 d.2.1, .int .i64 d.2.2]) fun d => (rDl (dlvN d.1.ls d.2.1 d.2.2).1 (dlvN d.1.ls d.2.1 d.2.2).2.1 (dlvN d.1.ls d.2.1 d.2.2).2.2,[])
theorem dlvS_eq (d : Nts) (f t : Int) : dlvS [d.v, .int .i64 f, .int .i64 t] [] = some (rDl (dlvN d.ls f t).1 (dlvN d.ls f t).2.1 (dlvN d.ls f t).2.2,[]) :=
 mkS_eq (enc:=fun d : Nts × Int × Int=>[d.1.v,AV.int .i64 d.2.1, .int .i64 d.2.2]) (res:=fun d=>(rDl (dlvN d.1.ls d.2.1 d.2.2).1 (dlvN d.1.ls d.2.1 d.2.2).2.1 (dlvN d.1.ls d.2.1 d.2.2).2.2,[])) (fun x y h=>by
   obtain ⟨a,b,c⟩:=x
   obtain ⟨a',b',c'⟩:=y
   simp only [List.cons.injEq,AV.int.injEq,true_and,and_true] at h
   obtain ⟨h1,rfl,rfl⟩:=h
   cases Nts.v_inj h1
   rfl) (d,f,t)
noncomputable def dlv_specs : NL Spec := [(22,⟨1,vkS⟩),(33,⟨1,fnkS⟩),(34,⟨1,ptlS⟩)]
theorem dlv_specs_ok : ∀ p ∈ dlv_specs,FnC Tryz.prog p.1 p.2.fn := by
 simp only [dlv_specs,List.mem_cons,List.not_mem_nil,or_false]
 rintro p (rfl | rfl | rfl)
 · exact rvk21_ok
 · exact fnk_ok
 · exact ptl_ok
attribute [local simp] dlv_specs
theorem dlv_ok : FnC Tryz.prog 13 dlvS := by
 refine FnC.walkN 13 (fn:=Tryz.f13) [46,24,56] Tryz.func13 rfl (by kernel_rfl) (fun x=>?_) (fun x=>⟨_,rDl_nrm _ _ _⟩)
 obtain ⟨⟨l,hl,he⟩,f,t⟩:=x
 have cv:=vkS_eq ⟨l,hl,he⟩
 have ce:=fnkS_eq ⟨l,hl,he⟩ f t
 simp only [Nts.v] at cv ce
 change W _ (RetNf _ _ _ (rDl (dlvN l f t).1 (dlvN l f t).2.1 (dlvN l f t).2.2) []) _ _ ⟨43,[(0, .agg [.list 4 (l.map lkC)]),(1, .int .i64 f),(2, .int .i64 t)],[]⟩
 generalize hR : dlvN l f t = R
 unfold dlvN at hR
 dsimp only at hR
 cases hv : validK l with
 | false =>
   rw [if_pos hv] at hR
   subst hR
   rw [hv] at cv
   repeat' (first | intro (hb : _ = _) | refine ZV ?_ | refine ZB tm dlv_specs_ok ?_ | refine ZH ?_ ?_ | refine ZJ (by conv=>lhs; simp [cv]) ?_ | refine ZA ?_ ?_)
   refine Ye ?_
   exact rDl_nrm0 1
 | true =>
   rw [if_neg (by simp [hv])] at hR
   rw [hv] at cv
   have oe:=fndK_ok he f t
   generalize fndK f t l = e at *
   obtain ⟨e1,e2,e3,q⟩:=e
   unfold okK at oe
   dsimp only at oe hR
   simp only [lkC] at ce
   clear hv
   cases q with
   | nil =>
     dsimp only at hR
     subst hR
     simp only [List.map_nil] at ce
     repeat' (first | intro (hb : _ = _) | refine ZV ?_ | refine ZB tm dlv_specs_ok ?_ | refine ZH ?_ ?_ | refine ZJ (by conv=>lhs; simp [cv,ce]) ?_ | refine ZA ?_ ?_)
     refine Ye ?_
     exact rDl_nrm0 6
   | cons m r =>
     dsimp only at hR
     simp only [List.length_cons] at oe
     have w3 : r.length + 1 ≤ 9223372036854775807:=by omega
     have w4 : ((r.length : Int) + 1 == 0) = false:=by simp; omega
     simp only [List.map_cons] at ce
     cases e3 with
     | true =>
       rw [if_pos rfl] at hR
       subst hR
       repeat' (first | intro (hb : _ = _) | refine ZV ?_ | refine ZB tm dlv_specs_ok ?_ | refine ZH ?_ ?_ | refine ZJ (by conv=>lhs; simp [cv,ce,w3,w4]) ?_ | refine ZA ?_ ?_)
       refine Ye ?_
       exact rDl_nrm0 8
     | false =>
       rw [if_neg (by simp)] at hR
       have cP:=ptlS_eq ⟨⟨l,hl,he⟩,⟨e1,e2,false,r⟩,by unfold okK; dsimp only; omega⟩
       simp only [Nts.v,lkC] at cP
       generalize putK ⟨e1,e2,false,r⟩ l = L at *
       subst hR
       obtain ⟨u1,u2,u3,u4,u5,mo,u6,u7,u8,u9⟩:=m
       simp only [Msg.v] at ce
       have z1 : r.length * 536 ≤ 140737488355328:=by omega
       have z2 : r.length ≤ maxLen:=by simp only [maxLen]; omega
       have z3 : r.length ≤ 9223372036854775807:=by omega
       have tr : List.take r.length (r.map Msg.v) = r.map Msg.v:=List.take_of_length_le (by simp)
       clear oe
       repeat' (first | intro (hb : _ = _) | refine ZV ?_ | refine ZB tm dlv_specs_ok ?_ | refine ZH ?_ ?_ | refine ZJ (by conv=>lhs; simp [cv,ce,w3,w4,z1,z2,z3,tr,cP]) ?_ | refine ZA ?_ ?_)
       refine Ye ?_
       exact rDl_nrm ⟨u1,u2,u3,u4,u5,mo,u6,u7,u8,u9⟩ L 0
end
section
attribute [local simp] instA slice3A slice3C
attribute [-simp] mkv
attribute [local simp] mkv_hd hdA_cons hdA_ob hdA_ob'
theorem pnode_ok : FnC Tryz.prog 27 (boS okN) := by
 refine FnC.walk 27 (fn:=Tryz.f27) Tryz.func27 rfl (by kernel_rfl) fun m=>?_
 change W _ (Ret _ _ (.bool (okN m)) []) _ _ ⟨9,[(0, .int .i64 m)],[]⟩
 repeat' (first | intro (hb : _ = _) | refine ZV ?_ | refine ZB tm no_specs ?_ | refine ZH ?_ ?_ | refine ZJ (by conv=>lhs; simp) ?_ | refine ZA ?_ ?_)
 all_goals (first | refine Yd ?_ | refine Ye ?_)
 all_goals (first | rfl | (simp [okN]; done) | (simp_all [okN]; done) | (simp_all [okN]; omega))
def ixmF (p : Msg → Bool) : Nat → List Msg → Int
 | _,[] => -1
 | k,x :: r=>if p x then (k : Int) else ixmF p (k + 1) r
theorem ixmF_drop {p : Msg → Bool} {l : List Msg} {k : Nat} {x : Msg} (h : l[k]? = some x) : ixmF p k (l.drop k) = if p x then (k : Int) else ixmF p (k + 1) (l.drop (k + 1)) := by
 obtain ⟨hk,rfl⟩:=List.getElem?_eq_some_iff.1 h
 rw [List.drop_eq_getElem_cons hk,ixmF]
theorem ixmF_end {p : Msg → Bool} {l : List Msg} : ixmF p l.length (l.drop l.length) = -1 := by rw [List.drop_length]; rfl
theorem ixmF_any {p : Msg → Bool} : ∀ {k : Nat} {l : List Msg},decide (0 ≤ ixmF p k l) = l.any p
 | k,[]=>by simp [ixmF]
 | k,x :: r=>by
   rw [ixmF,List.any_cons]
   cases hp : p x
   · simpa using ixmF_any (p:=p) (k:=k + 1) (l:=r)
   · simp
structure ixmV where
 F : FuncId
 p : Msg → Bool
 S : SpecFn
 ok : FnC Tryz.prog F S
 eq : ∀ x,S [.agg x.v] [] = some (.bool (p x),[])
structure ixmW where
 F : FuncId
 ne : (F = 70) = False
 ne2 : (70 = F) = False
 p : Msg → Bool
 E : Nat
 s : Nat
 row : List AV
 refs : refsL row = []
 ren : ∀ f,renL f row = row
 S : SpecFn
 ok : FnC Tryz.prog F S
 eq : ∀ x,S [.agg x.v, .ptr 0 0 0 0] [{ gen:=0,kind:=2,elem:=E,size:=s,inl:=false,rows:=[row] }] = some (.bool (p x),[{ gen:=0,kind:=2,elem:=E,size:=s,inl:=false,rows:=[row] }])
def ixmW.b (v : ixmW) : ABlk := { gen := 0,kind := 2,elem := v.E,size := v.s,inl := false,rows := [v.row] }
theorem ixmC_inj {l m : List Msg} (h : l.map Msg.v = m.map Msg.v) : l = m := map_inj' (fun a b h => (msgv1_inj h)) h
noncomputable def ixm1 (v : ixmW) : SpecFn := mkS2 (fun l : {l : List Msg // l.length ≤ 9100} => ([.list 45 (l.1.map Msg.v), .fn (.func v.F) [] [.ptr 0 0 0 0]],[v.b])) fun l => (.int .i64 (ixmF v.p 0 l.1),[v.b])
theorem ixm1_eq (v : ixmW) (l : List Msg) (h : l.length ≤ 9100) : ixm1 v [.list 45 (l.map Msg.v), .fn (.func v.F) [] [.ptr 0 0 0 0]] [v.b] = some (.int .i64 (ixmF v.p 0 l),[v.b]) :=
 mkS2_eq (enc:=fun l : {l : List Msg // l.length ≤ 9100}=>([AV.list 45 (l.1.map Msg.v), .fn (.func v.F) [] [.ptr 0 0 0 0]],[v.b])) (res:=fun l=>(AV.int .i64 (ixmF v.p 0 l.1),[v.b])) (fun x y h=>by
   simp only [Prod.mk.injEq,List.cons.injEq,AV.list.injEq,true_and,and_true] at h
   rw [ixmC_inj h]) ⟨l,h⟩
theorem ixm1_ok (v : ixmW) : FnC Tryz.prog 70 (ixm1 v) := by
 obtain ⟨G,ne,ne2,p,E,s,row,rf,rn,S,ok,eq⟩:=v
 have sp : ∀ q ∈ ([(G,⟨3,S⟩)] : NL Spec),FnC Tryz.prog q.1 q.2.fn:=by
   simp only [List.mem_cons,List.not_mem_nil,or_false]
   rintro q rfl
   exact ok
 refine FnC.walkB 70 (fn:=Tryz.f70) Tryz.func70 rfl (by kernel_rfl) (fun x b hb=>by simp at hb; rw [hb]; rfl) fun x=>?_
 obtain ⟨l,hl⟩:=x
 obtain ⟨b,hB⟩ : ∃ b : ABlk,b = { gen:=0,kind:=2,elem:=E,size:=s,inl:=false,rows:=[row] }:=⟨_,rfl⟩
 change W _ (RetB _ _ 1 (.int .i64 (ixmF p 0 l)) [{ gen:=0,kind:=2,elem:=E,size:=s,inl:=false,rows:=[row] }]) _ _ ⟨19,[(0, .list 45 (l.map Msg.v)),(1, .fn (.func G) [] [.ptr 0 0 0 0])],[(0, { gen:=0,kind:=2,elem:=E,size:=s,inl:=false,rows:=[row] })]⟩
 have cap : l.length ≤ 9223372036854775807:=by omega
 repeat' (first | intro (hb : _ = _) | refine ZV ?_ | refine ZB tm sp ?_ | refine ZH ?_ ?_ | refine ZJ (by conv=>lhs; simp [cap]) ?_ | refine ZA ?_ ?_)
 refine W.loop rfl (ι:={ q : Nat × NL ABlk // q.1 ≤ l.length ∧ ixmF p 0 l = ixmF p q.1 (l.drop q.1) ∧ lk q.2 0 = some { gen:=0,kind:=2,elem:=E,size:=s,inl:=false,rows:=[row] } })
   (fun q=>⟨19,[(0, .list 45 (l.map Msg.v)),(1, .fn (.func G) [] [.ptr 0 0 0 0]),(7, .int .i64 l.length),(8, .int .i64 (q.1.1 : Nat))],q.1.2⟩) (fun q=>l.length - q.1.1)
   ⟨(0,_),by simp,rfl,rfl⟩ (AS.le_of rfl ⟨rfl,rfl,rfl,rfl,trivial⟩ (fun _=>rfl)) ?_
 rintro ⟨⟨k,h⟩,hk,hf,h1⟩
 dsimp only at hk hf h1 ⊢
 by_cases hk2 : k = l.length
 · subst hk2
   rw [ixmF_end] at hf
   rw [hf]
   repeat' (first | intro (hb : _ = _) | refine ZV ?_ | refine ZB tm sp ?_ | refine ZH ?_ ?_ | refine ZJ (by conv=>lhs; simp) ?_ | refine ZA ?_ ?_)
   exact RetB.raw [0] rfl (by conv=>lhs; simp) (by decide) (by simp [h1]) (by simp [h1,rn]) (by simp)
 · have hlt : k < l.length:=by omega
   obtain ⟨m,hr⟩:=get_lt hlt
   have hm : (l.map Msg.v)[k]? = some (Msg.v m):=by rw [List.getElem?_map,hr]; rfl
   have q1 : (k : Int) < l.length:=by omega
   have q2 : ¬ l.length ≤ k:=by omega
   have hw : IntKind.i64.wrap ((k : Int) + 1) = ((k + 1 : Nat) : Int):=w64 (by omega) (by omega)
   rw [ixmF_drop hr] at hf
   have cf:=eq m
   clear hlt hk2
   simp only [Msg.v] at cf hm
   cases ho : p m with
   | true =>
     rw [if_pos ho] at hf
     rw [hf]
     rw [ho] at cf
     repeat' (first | intro (hb : _ = _) | refine ZV ?_ | refine ZB tm sp ?_ | refine ZH ?_ ?_ | refine ZJ (by conv=>lhs; simp [q1,q2,hm,cf,h1,rf,rn,maxLen]) ?_ | refine ZA ?_ ?_)
     exact RetB.raw [0] rfl (by conv=>lhs; simp) (by decide) (by simp) (by simp [rn]) (by simp)
   | false =>
     rw [if_neg (by simp [ho])] at hf
     rw [ho] at cf
     repeat' (first | intro (hb : _ = _) | refine ZV ?_ | refine ZB tm sp ?_ | refine ZH ?_ ?_ | refine ZJ (by conv=>lhs; simp [q1,q2,hm,cf,hw,h1,rf,rn,maxLen]) ?_ | refine ZA ?_ ?_)
     exact ⟨⟨(k + 1,_),by dsimp only; omega,hf,by simp [lk_st]⟩,by dsimp only; omega,AS.le_of rfl ⟨rfl,rfl,rfl,rfl,trivial⟩ (fun _=>rfl)⟩
noncomputable def ixmc1 (v : ixmW) : SpecFn := mkS2 (fun l : {l : List Msg // l.length ≤ 9100} => ([.list 45 (l.1.map Msg.v), .fn (.func v.F) [] [.ptr 0 0 0 0]],[v.b])) fun l => (.bool (l.1.any v.p),[v.b])
theorem ixmc1_eq (v : ixmW) (l : List Msg) (h : l.length ≤ 9100) : ixmc1 v [.list 45 (l.map Msg.v), .fn (.func v.F) [] [.ptr 0 0 0 0]] [v.b] = some (.bool (l.any v.p),[v.b]) :=
 mkS2_eq (enc:=fun l : {l : List Msg // l.length ≤ 9100}=>([AV.list 45 (l.1.map Msg.v), .fn (.func v.F) [] [.ptr 0 0 0 0]],[v.b])) (res:=fun l=>(AV.bool (l.1.any v.p),[v.b])) (fun x y h=>by
   simp only [Prod.mk.injEq,List.cons.injEq,AV.list.injEq,true_and,and_true] at h
   rw [ixmC_inj h]) ⟨l,h⟩
theorem ixmc1_ok (v : ixmW) : FnC Tryz.prog 41 (ixmc1 v) := by
 have sp : ∀ q ∈ ([(70,⟨3,ixm1 v⟩)] : NL Spec),FnC Tryz.prog q.1 q.2.fn:=by
   simp only [List.mem_cons,List.not_mem_nil,or_false]
   rintro q rfl
   exact ixm1_ok v
 refine FnC.walkB 41 (fn:=Tryz.f41) Tryz.func41 rfl (by kernel_rfl) (fun x b hb=>by simp at hb; rw [hb]; rfl) fun x=>?_
 obtain ⟨l,hl⟩:=x
 have cf:=ixm1_eq v l hl
 obtain ⟨G,ne,ne2,p,E,s,row,rf,rn,S,ok,eq⟩:=v
 simp only [ixmW.b] at cf
 change W _ (RetB _ _ 1 (.bool (l.any p)) [{ gen:=0,kind:=2,elem:=E,size:=s,inl:=false,rows:=[row] }]) _ _ ⟨9,[(0, .list 45 (l.map Msg.v)),(1, .fn (.func G) [] [.ptr 0 0 0 0])],[(0, { gen:=0,kind:=2,elem:=E,size:=s,inl:=false,rows:=[row] })]⟩
 repeat' (first | intro (hb : _ = _) | refine ZV ?_ | refine ZB tm sp ?_ | refine ZH ?_ ?_ | refine ZJ (by conv=>lhs; simp [cf,rf,rn]) ?_ | refine ZA ?_ ?_)
 exact RetB.raw [0] rfl (by conv=>lhs; simp) (by decide) (by simp) (by simp [rn]) (by simp [ixmF_any])
def lkBox (x : Lk) : ABlk := { gen := 0,kind := 2,elem := 70,size := 4,inl := false,rows := [lkC x] }
def strB (x : Lk) (m : Msg) : Bool := m.fr != x.fr || m.to != x.to
noncomputable def sxkS (x : Lk) : SpecFn := mkS2 (fun m : Msg => ([.agg m.v, .ptr 0 0 0 0],[lkBox x])) fun m => (.bool (strB x m),[lkBox x])
theorem sxkS_eq (x : Lk) (m : Msg) : sxkS x [.agg m.v, .ptr 0 0 0 0] [lkBox x] = some (.bool (strB x m),[lkBox x]) :=
 mkS2_eq (enc:=fun m : Msg=>([AV.agg m.v, .ptr 0 0 0 0],[lkBox x])) (res:=fun m=>(AV.bool (strB x m),[lkBox x])) (fun a b h=>by
   simp only [Prod.mk.injEq,List.cons.injEq,AV.agg.injEq,and_true] at h
   rw [msgv1_inj h]) m
theorem sxk_ok (x : Lk) : FnC Tryz.prog 40 (sxkS x) := by
 refine FnC.walkB 40 (fn:=Tryz.f40) Tryz.func40 rfl (by kernel_rfl) (fun m b hb=>by simp at hb; rw [hb]; rfl) fun m=>?_
 obtain ⟨a,b,c,q⟩:=x
 obtain ⟨b1,b2,b3,b4,b5,o,b6,b7,b8,b9⟩:=m
 change W _ (RetB _ _ 1 (.bool (b1 != a || b2 != b)) [lkBox ⟨a,b,c,q⟩]) _ _ ⟨16,[(0, .agg (.int .i64 b1 :: .int .i64 b2 :: .int .i64 b3 :: .int .u64 b4 :: .int .i64 b5 :: (o.cells ++ [.int .u64 b6, .int .i64 b7, .int .u64 b8, .int .i64 b9]))),(1, .ptr 0 0 0 0)],[(0,lkBox ⟨a,b,c,q⟩)]⟩
 repeat' (first | intro (hb : _ = _) | refine ZV ?_ | refine ZB tm no_specs ?_ | refine ZH ?_ ?_ | refine ZJ (by conv=>lhs; simp [lkBox,lkC]) ?_ | refine ZA ?_ ?_)
 all_goals (refine RetB.raw [0] rfl (by conv=>lhs; simp) (by decide) (by simp) (by simp [renL,AV.ren,lkBox,lkC]) (by simp_all))
noncomputable def sxkV (x : Lk) : ixmW := ⟨40,by simp,by simp,strB x,70,4,lkC x,by simp [lkC,refsL,AV.refs],fun f => renL_lkC f x,sxkS x,sxk_ok x,sxkS_eq x⟩
def pvK (l : List Lk) (k : Nat) (f t : Int) : Bool :=
 match k with
 | 0=>true
 | i + 1=>match l[i]? with
   | some s=>befB s f t
   | none=>true
theorem str_all (x : Lk) : (x.q.any (strB x)) = !(x.q.all fun m => m.fr == x.fr && m.to == x.to) := by
 rw [List.not_all_eq_any_not]
 congr 1
 funext m
 simp only [strB,Bool.not_and,bne]
theorem vap2_ok : FnC Tryz.prog 21 vkS := by
 refine FnC.walk 21 (fn:=Tryz.f21) Tryz.func21 rfl (by kernel_rfl) fun d=>?_
 obtain ⟨l,hl,he⟩:=d
 change W _ (Ret _ _ (.bool (validK l)) []) _ _ ⟨66,[(0, .agg [.list 4 (l.map lkC)])],[]⟩
 have cap : l.length ≤ 9223372036854775807:=by omega
 repeat' (first | intro (hb : _ = _) | refine ZV ?_ | refine ZB tm no_specs ?_ | refine ZH ?_ ?_ | refine ZJ (by conv=>lhs; simp [cap]) ?_ | refine ZA ?_ ?_)
 refine W.loop rfl (ι:={ q : Nat × NL ABlk // q.1 ≤ l.length ∧ (∀ j,j < q.1 → goodK l j = true) ∧ lk q.2 32 = some { gen:=1,kind:=2,elem:=24,size:=1,inl:=false,rows:=[[.list 4 (l.map lkC)]] } })
   (fun q=>⟨66,[(1, .ptr 32 1 0 0),(7, .list 4 (l.map lkC)),(8, .int .i64 l.length),(9, .int .i64 (q.1.1 : Nat))],q.1.2⟩) (fun q=>l.length - q.1.1)
   ⟨(0,_),by simp,fun j hj=>absurd hj (by simp),rfl⟩ (AS.le_of rfl ⟨rfl,rfl,rfl,rfl,trivial⟩ (fun _=>rfl)) ?_
 rintro ⟨⟨k,h⟩,hk,hg,h1⟩
 dsimp only at hk hg h1 ⊢
 by_cases hk2 : k = l.length
 · subst hk2
   rw [validK_yes hg]
   have q1 : ¬ (l.length : Int) < l.length:=by omega
   repeat' (first | intro (hb : _ = _) | refine ZV ?_ | refine ZB tm no_specs ?_ | refine ZH ?_ ?_ | refine ZJ (by conv=>lhs; simp [q1]) ?_ | refine ZA ?_ ?_)
   all_goals (first | refine Yd ?_ | refine Ye ?_)
   all_goals (first | rfl | (simp; done) | (simp_all; done) | (simp_all; omega))
 · have hlt : k < l.length:=by omega
   obtain ⟨x,hr⟩:=get_lt hlt
   have hm : (l.map lkC)[k]? = some (lkC x):=by rw [List.getElem?_map,hr]; rfl
   have q1 : (k : Int) < l.length:=by omega
   have q2 : ¬ l.length ≤ k:=by omega
   have hw : IntKind.i64.wrap ((k : Int) + 1) = ((k + 1 : Nat) : Int):=w64 (by omega) (by omega)
   have hqb : x.q.length ≤ 9000:=he _ (List.mem_of_getElem? hr)
   have cq : x.q.length ≤ 9223372036854775807:=by omega
   have n1:=boS_eq okN x.fr
   have n2:=boS_eq okN x.to
   have cs:=ixmc1_eq (sxkV x) x.q (by omega)
   have sp : ∀ p ∈ ([(27,⟨1,boS okN⟩),(42,⟨1,cmlS⟩),(41,⟨3,ixmc1 (sxkV x)⟩)] : NL Spec),FnC Tryz.prog p.1 p.2.fn:=by
     simp only [List.mem_cons,List.not_mem_nil,or_false]
     rintro p (rfl | rfl | rfl)
     · exact pnode_ok
     · exact cml_ok
     · exact ixmc1_ok (sxkV x)
   change ixmc1 (sxkV x) [.list 45 (x.q.map Msg.v), .fn (.func 40) [] [.ptr 0 0 0 0]] [{ gen:=0,kind:=2,elem:=70,size:=4,inl:=false,rows:=[lkC x] }] = some (.bool (x.q.any (strB x)),[{ gen:=0,kind:=2,elem:=70,size:=4,inl:=false,rows:=[lkC x] }]) at cs
   rw [str_all] at cs
   have hgk : ∀ z,z = (lkB x && (x.q.all (fun m=>m.fr == x.fr && m.to == x.to))) → z = false → goodK l k = false:=fun z hz h0=>by
     rw [h0] at hz
     unfold goodK
     rw [hr]
     dsimp only
     rw [← Bool.and_assoc, ← hz,Bool.false_and]
   obtain ⟨b3,hb3⟩ : ∃ b,(x.q.all fun m=>m.fr == x.fr && m.to == x.to) = b:=⟨_,rfl⟩
   obtain ⟨e0,he0⟩ : ∃ b,((x.q.length : Int) == 0) = b:=⟨_,rfl⟩
   have he0' : x.q.isEmpty = e0:=by
     rw [← he0]
     cases x.q with
     | nil=>rfl
     | cons a r=>simp; omega
   have hlb : lkB x = (okN x.fr && (okN x.to && (decide (x.q.length ≤ 4096) && (x.cut || !e0)))):=by rw [← he0']; rfl
   rw [hb3] at cs hgk
   rw [hlb] at hgk
   have hgo : (lkB x && b3) = true → goodK l k = pvK l k x.fr x.to:=fun hz=>by
     unfold goodK
     rw [hr]
     dsimp only
     rw [hb3, ← Bool.and_assoc,hz,Bool.true_and]
     rfl
   rw [hlb] at hgo
   clear hlb he0' hb3
   obtain ⟨a,b,c,q⟩:=x
   simp only [lkC] at hm cs
   dsimp only at *
   generalize okN a = x1 at *
   generalize okN b = x2 at *
   have bad : ∀ (hx : (x1 && (x2 && (decide (q.length ≤ 4096) && (c || !e0))) && b3) = false),validK l = false:=fun hx=>validK_no hlt (hgk _ rfl hx)
   by_cases h3 : q.length ≤ 4096
   · have c3 : ¬ (4096 : Int) < q.length:=by omega
     rw [decide_eq_true h3] at bad hgo
     cases x1
     · rw [bad (by simp)]
       repeat' (first | intro (hb : _ = _) | refine ZV ?_ | refine ZB tm sp ?_ | refine ZH ?_ ?_ | refine ZJ (by conv=>lhs; simp [q1,q2,hm,n1,n2,cq,c3,cs,he0]) ?_ | refine ZA ?_ ?_)
       all_goals (first | refine Yd ?_ | refine Ye ?_)
       all_goals (first | rfl | (simp; done) | (simp_all; done) | (simp_all; omega))
     cases x2
     · rw [bad (by simp)]
       repeat' (first | intro (hb : _ = _) | refine ZV ?_ | refine ZB tm sp ?_ | refine ZH ?_ ?_ | refine ZJ (by conv=>lhs; simp [q1,q2,hm,n1,n2,cq,c3,cs,he0]) ?_ | refine ZA ?_ ?_)
       all_goals (first | refine Yd ?_ | refine Ye ?_)
       all_goals (first | rfl | (simp; done) | (simp_all; done) | (simp_all; omega))
     cases b3
     · rw [bad (by simp)]
       repeat' (first | intro (hb : _ = _) | refine ZV ?_ | refine ZB tm sp ?_ | refine ZH ?_ ?_ | refine ZJ (by conv=>lhs; simp [q1,q2,hm,n1,n2,cq,c3,cs,he0]) ?_ | refine ZA ?_ ?_)
       all_goals (first | refine Yd ?_ | refine Ye ?_)
       all_goals (first | rfl | (simp; done) | (simp_all; done) | (simp_all; omega))
     have hgn : goodK l k = true → ∀ j,j < k + 1 → goodK l j = true:=fun hz j hj=>by
       by_cases e : j = k
       · subst e; exact hz
       · exact hg j (by omega)
     have good : (c = true ∨ e0 = false) ∨ (c = false ∧ e0 = true):=by cases c <;> cases e0 <;> simp
     rcases good with good | ⟨rfl,rfl⟩
     · have hgo:=hgo (by cases c <;> cases e0 <;> simp at good ⊢)
       clear bad hgk
       by_cases hz : k = 0
       · have hgk : goodK l k = true:=by rw [hgo]; subst hz; rfl
         have hgn:=hgn hgk
         have q5 : ¬ (0 : Int) < (k : Int):=by omega
         have q6 : ¬ 0 < k:=by omega
         clear hz hgo
         cases c
         · cases e0
           · repeat' (first | intro (hb : _ = _) | refine ZV ?_ | refine ZB tm sp ?_ | refine ZH ?_ ?_ | refine ZJ (by conv=>lhs; simp [q1,q2,q5,q6,hm,n1,n2,cq,c3,cs,he0,hw,h1]) ?_ | refine ZA ?_ ?_)
             exact ⟨⟨(k + 1,_),hlt,hgn,by simp [lk_st,h1]⟩,by dsimp only; omega,AS.le_of rfl ⟨rfl,rfl,rfl,rfl,trivial⟩ (fun _=>rfl)⟩
           · simp at good
         · repeat' (first | intro (hb : _ = _) | refine ZV ?_ | refine ZB tm sp ?_ | refine ZH ?_ ?_ | refine ZJ (by conv=>lhs; simp [q1,q2,q5,q6,hm,n1,n2,cq,c3,cs,hw,h1]) ?_ | refine ZA ?_ ?_)
           exact ⟨⟨(k + 1,_),hlt,hgn,by simp [lk_st,h1]⟩,by dsimp only; omega,AS.le_of rfl ⟨rfl,rfl,rfl,rfl,trivial⟩ (fun _=>rfl)⟩
       · obtain ⟨j,hj⟩ : ∃ j,k = j + 1:=⟨k - 1,by omega⟩
         obtain ⟨s,hs⟩:=get_lt (l:=l) (i:=j) (by omega)
         have hms : (l.map lkC)[j]? = some (lkC s):=by rw [List.getElem?_map,hs]; rfl
         have cc:=cmlS_eq s (he s (List.mem_of_getElem? hs)) a b
         have cl:=cmL_lt s a b
         generalize cmL s a b = cv at cc cl
         have q3 : ¬ l.length ≤ j:=by omega
         have q4 : (0 : Int) < (k : Int):=by omega
         have q4' : 0 < k:=by omega
         have hd : IntKind.i64.wrap ((k : Int) - 1) = (j : Int):=by rw [w64 (by omega) (by omega)]; omega
         have q1' : (j : Int) < l.length:=by omega
         have hgo2 : goodK l k = befB s a b:=by rw [hgo]; subst hj; simp only [pvK,hs]
         clear hgo
         obtain ⟨s1,s2,s3,s4⟩:=s
         simp only [lkC] at hms cc
         by_cases hc : cv < 0
         · have hgn:=hgn (by rw [hgo2]; exact cl.1 hc)
           have hc2 : ¬ (0 : Int) ≤ cv:=by omega
           cases c
           · cases e0
             · repeat' (first | intro (hb : _ = _) | refine ZV ?_ | refine ZB tm sp ?_ | refine ZH ?_ ?_ | refine ZJ (by conv=>lhs; simp [q1,q1',q2,q3,q4,q4',hm,hms,n1,n2,cq,c3,cs,he0,hw,hd,h1,cc,hc2]) ?_ | refine ZA ?_ ?_)
               exact ⟨⟨(k + 1,_),hlt,hgn,by simp [lk_st,h1]⟩,by dsimp only; omega,AS.le_of rfl ⟨rfl,rfl,rfl,rfl,trivial⟩ (fun _=>rfl)⟩
             · simp at good
           · repeat' (first | intro (hb : _ = _) | refine ZV ?_ | refine ZB tm sp ?_ | refine ZH ?_ ?_ | refine ZJ (by conv=>lhs; simp [q1,q1',q2,q3,q4,q4',hm,hms,n1,n2,cq,c3,cs,hw,hd,h1,cc,hc2]) ?_ | refine ZA ?_ ?_)
             exact ⟨⟨(k + 1,_),hlt,hgn,by simp [lk_st,h1]⟩,by dsimp only; omega,AS.le_of rfl ⟨rfl,rfl,rfl,rfl,trivial⟩ (fun _=>rfl)⟩
         · have hc2 : (0 : Int) ≤ cv:=by omega
           rw [validK_no hlt (by rw [hgo2]; exact Bool.eq_false_iff.2 fun c=>hc (cl.2 c))]
           cases c
           · cases e0
             · repeat' (first | intro (hb : _ = _) | refine ZV ?_ | refine ZB tm sp ?_ | refine ZH ?_ ?_ | refine ZJ (by conv=>lhs; simp [q1,q1',q2,q3,q4,q4',hm,hms,n1,n2,cq,c3,cs,he0,hw,hd,h1,cc,hc2]) ?_ | refine ZA ?_ ?_)
               all_goals (first | refine Yd ?_ | refine Ye ?_)
               all_goals (first | rfl | (simp; done) | (simp_all; done) | (simp_all; omega))
             · simp at good
           · repeat' (first | intro (hb : _ = _) | refine ZV ?_ | refine ZB tm sp ?_ | refine ZH ?_ ?_ | refine ZJ (by conv=>lhs; simp [q1,q1',q2,q3,q4,q4',hm,hms,n1,n2,cq,c3,cs,hw,hd,h1,cc,hc2]) ?_ | refine ZA ?_ ?_)
             all_goals (first | refine Yd ?_ | refine Ye ?_)
             all_goals (first | rfl | (simp; done) | (simp_all; done) | (simp_all; omega))
     · rw [bad (by simp)]
       repeat' (first | intro (hb : _ = _) | refine ZV ?_ | refine ZB tm sp ?_ | refine ZH ?_ ?_ | refine ZJ (by conv=>lhs; simp [q1,q2,hm,n1,n2,cq,c3,cs,he0]) ?_ | refine ZA ?_ ?_)
       all_goals (first | refine Yd ?_ | refine Ye ?_)
       all_goals (first | rfl | (simp; done) | (simp_all; done) | (simp_all; omega))
   · have c3 : (4096 : Int) < q.length:=by omega
     rw [bad (by simp [h3])]
     repeat' (first | intro (hb : _ = _) | refine ZV ?_ | refine ZB tm sp ?_ | refine ZH ?_ ?_ | refine ZJ (by conv=>lhs; simp [q1,q2,hm,n1,n2,cq,c3]) ?_ | refine ZA ?_ ?_)
     all_goals (first | refine Yd ?_ | refine Ye ?_)
     all_goals (first | rfl | (simp; done) | (simp_all; done) | (simp_all; omega))
noncomputable def lk0 : Lk := ⟨0,0,false,[]⟩
noncomputable def fnpL (l : List Lk) (f t : Int) : Lk := if hasN l (bsN l f t) f t = true then fndK f t l else lk0
noncomputable def fnpS : SpecFn := mkS (fun d : NtS × Int × Int => [.agg [.list 4 (d.1.1.ls.map lkC)], .int .i64 d.2.1, .int .i64 d.2.2]) fun d => (.agg (lkC (fnpL d.1.1.ls d.2.1 d.2.2)),[])
theorem fnpS_eq (d : NtS) (f t : Int) : fnpS [.agg [.list 4 (d.1.ls.map lkC)], .int .i64 f, .int .i64 t] [] = some (.agg (lkC (fnpL d.1.ls f t)),[]) :=
 mkS_eq (enc:=fun d : NtS × Int × Int=>[AV.agg [.list 4 (d.1.1.ls.map lkC)], .int .i64 d.2.1, .int .i64 d.2.2]) (res:=fun d=>(.agg (lkC (fnpL d.1.1.ls d.2.1 d.2.2)),[])) (fun x y h=>by
   obtain ⟨a,b,c⟩:=x
   obtain ⟨a',b',c'⟩:=y
   simp only [List.cons.injEq,AV.agg.injEq,AV.list.injEq,AV.int.injEq,true_and,and_true] at h
   obtain ⟨h1,rfl,rfl⟩:=h
   rw [NtS.inj (lks_inj h1)]) (d,f,t)
noncomputable def fnp_specs : NL Spec := [(56,⟨0,bsnS⟩)]
theorem fnp_specs_ok : ∀ p ∈ fnp_specs,FnC Tryz.prog p.1 p.2.fn := by
 simp only [fnp_specs,List.mem_cons,List.not_mem_nil,or_false]
 rintro p rfl
 exact bsn_ok
attribute [local simp] fnp_specs
theorem fnp_ok : FnC Tryz.prog 28 fnpS := by
 refine FnC.walkN 28 (fn:=Tryz.f28) [70] Tryz.func28 rfl (by kernel_rfl) (fun d=>?_) (fun d=>⟨_,lkC_nrmR _⟩)
 obtain ⟨⟨⟨l,lh,lq⟩,hs,l8⟩,f,t⟩:=d
 dsimp only at hs l8
 have cb:=bsnS_eq ⟨l,lh,lq⟩ f t
 dsimp only at cb
 change W _ (RetNf _ _ _ (.agg (lkC (fnpL l f t))) []) _ _ ⟨25,[(0, .agg [.list 4 (l.map lkC)]),(1, .int .i64 f),(2, .int .i64 t)],[]⟩
 cases hh : hasN l (bsN l f t) f t with
 | true =>
   obtain ⟨x,hx⟩:=fndK_at hh
   obtain ⟨e1, -⟩:=chg_found hs hx hh
   rw [fnpL,if_pos hh,e1]
   rw [hh] at cb
   generalize bsN l f t = p at *
   have hp : p < l.length:=(List.getElem?_eq_some_iff.1 hx).1
   have hm : (l.map lkC)[p]? = some (lkC x):=by rw [List.getElem?_map,hx]; rfl
   have q1 : (p : Int) < l.length:=by omega
   have q2 : ¬ l.length ≤ p:=by omega
   obtain ⟨a,b,c,q⟩:=x
   simp only [lkC] at hm
   clear hp hx
   repeat' (first | intro (hb : _ = _) | refine ZV ?_ | refine ZB tm fnp_specs_ok ?_ | refine ZH ?_ ?_ | refine ZJ (by conv=>lhs; simp [cb,q1,q2,hm]) ?_ | refine ZA ?_ ?_)
   all_goals (refine Ye ?_)
   all_goals exact lkC_nrmR ⟨a,b,c,q⟩
 | false =>
   rw [fnpL,if_neg (by simp [hh])]
   rw [hh] at cb
   generalize bsN l f t = p at *
   repeat' (first | intro (hb : _ = _) | refine ZV ?_ | refine ZB tm fnp_specs_ok ?_ | refine ZH ?_ ?_ | refine ZJ (by conv=>lhs; simp [cb]) ?_ | refine ZA ?_ ?_)
   all_goals (refine Ye ?_)
   all_goals (show nrmR Tryz.prog [70] (.agg [.int .i64 0, .int .i64 0, .bool false, .nils]) = _; simp only [nrmR,nrmV]; rw [lkC_nrm0]; rfl)
end
section
attribute [local simp] instA slice3A slice3C
attribute [-simp] mkv
attribute [local simp] mkv_hd hdA_cons hdA_ob hdA_ob'
theorem othK_mem {x y : Lk} {l : List Lk} (h : y ∈ othK x l) : y ∈ l := (List.mem_filter.1 h).1
theorem putP_mem {x y : Lk} : ∀ {l : List Lk},y ∈ putP x l → y = x ∨ y ∈ l
 | [],h=>by
   rw [putP,List.mem_singleton] at h
   exact .inl h
 | e :: r,h=>by
   rw [putP] at h
   split at h
   · rcases List.mem_cons.1 h with rfl | h
     · exact .inr (by simp)
     · rcases putP_mem h with h | h
       · exact .inl h
       · exact .inr (by simp [h])
   · rcases List.mem_cons.1 h with rfl | h
     · exact .inl rfl
     · exact .inr (othK_mem h)
theorem putK_mem {x y : Lk} {l : List Lk} (h : y ∈ putK x l) : y = x ∨ y ∈ l := by
 unfold putK restK at h
 split at h
 · exact .inr (othK_mem h)
 · exact putP_mem h
theorem putK_len (x : Lk) (l : List Lk) : (putK x l).length ≤ l.length + 1 := by
 unfold putK restK
 split
 · exact Nat.le_succ_of_le (List.length_filter_le _ _)
 · exact putP_len x l
structure Nt8 where
 ls : List Lk
 bd : ls.length ≤ 8900
 bq : ∀ l ∈ ls,okK l
def Nt8.n (d : Nt8) : Nts := ⟨d.ls,by have := d.bd; omega,d.bq⟩
noncomputable def cutN (ls : List Lk) (a b : Int) (c : Bool) : List Lk × Int :=
 if validK ls = false then ([],1) else if (!okN a || (!okN b || a == b)) = true then ([],2) else
   let x:=fndK a b ls
   let y:=fndK b a ls
   (putK ⟨y.fr,y.to,c,y.q⟩ (putK ⟨x.fr,x.to,c,x.q⟩ ls),0)
noncomputable def cutS : SpecFn := mkS (fun d : Nt8 × Int × Int × Bool => [d.1.n.v, .int .i64 d.2.1, .int .i64 d.2.2.1, .bool d.2.2.2]) fun d => (rN (cutN d.1.ls d.2.1 d.2.2.1 d.2.2.2).1 (cutN d.1.ls d.2.1 d.2.2.1 d.2.2.2).2,[])
theorem cutS_eq (d : Nt8) (a b : Int) (c : Bool) : cutS [d.n.v, .int .i64 a, .int .i64 b, .bool c] [] = some (rN (cutN d.ls a b c).1 (cutN d.ls a b c).2,[]) :=
 mkS_eq (enc:=fun d : Nt8 × Int × Int × Bool=>[d.1.n.v,AV.int .i64 d.2.1, .int .i64 d.2.2.1, .bool d.2.2.2]) (res:=fun d=>(rN (cutN d.1.ls d.2.1 d.2.2.1 d.2.2.2).1 (cutN d.1.ls d.2.1 d.2.2.1 d.2.2.2).2,[])) (fun x y h=>by
   obtain ⟨⟨l,b1,b2⟩,b,c,d⟩:=x
   obtain ⟨⟨l',b1',b2'⟩,b',c',d'⟩:=y
   simp only [List.cons.injEq,AV.int.injEq,AV.bool.injEq,true_and,and_true] at h
   obtain ⟨h1,rfl,rfl,rfl⟩:=h
   have h2:=Nts.v_inj h1
   simp only [Nt8.n,Nts.mk.injEq] at h2
   subst h2
   rfl) (d,a,b,c)
attribute [local simp] sdk_specs
theorem cut_ok : FnC Tryz.prog 15 cutS := by
 refine FnC.walkN 15 (fn:=Tryz.f15) [24,56] Tryz.func15 rfl (by kernel_rfl) (fun x=>?_) (fun x=>⟨_,rN_nrm _ _⟩)
 obtain ⟨⟨l,hl,he⟩,a,b,c⟩:=x
 have cv:=vkS_eq ⟨l,by omega,he⟩
 have c1:=boS_eq okN a
 have c2:=boS_eq okN b
 have cx:=fnkS_eq ⟨l,by omega,he⟩ a b
 have cy:=fnkS_eq ⟨l,by omega,he⟩ b a
 simp only [Nts.v] at cv cx cy
 change W _ (RetNf _ _ _ (rN (cutN l a b c).1 (cutN l a b c).2) []) _ _ ⟨47,[(0, .agg [.list 4 (l.map lkC)]),(1, .int .i64 a),(2, .int .i64 b),(3, .bool c)],[]⟩
 generalize hR : cutN l a b c = R
 unfold cutN at hR
 dsimp only at hR
 cases hv : validK l with
 | false =>
   rw [if_pos hv] at hR
   subst hR
   rw [hv] at cv
   repeat' (first | intro (hb : _ = _) | refine ZV ?_ | refine ZB tm sdk_specs_ok ?_ | refine ZH ?_ ?_ | refine ZJ (by conv=>lhs; simp [cv]) ?_ | refine ZA ?_ ?_)
   refine Ye ?_
   exact rN_nrm0 1
 | true =>
   rw [if_neg (by simp [hv])] at hR
   rw [hv] at cv
   cases h1 : okN a with
   | false =>
     rw [if_pos (by simp [h1])] at hR
     subst hR
     rw [h1] at c1
     repeat' (first | intro (hb : _ = _) | refine ZV ?_ | refine ZB tm sdk_specs_ok ?_ | refine ZH ?_ ?_ | refine ZJ (by conv=>lhs; simp [cv,c1]) ?_ | refine ZA ?_ ?_)
     refine Ye ?_
     exact rN_nrm0 2
   | true =>
     rw [h1] at c1
     cases h2 : okN b with
     | false =>
       rw [if_pos (by simp [h2])] at hR
       subst hR
       rw [h2] at c2
       repeat' (first | intro (hb : _ = _) | refine ZV ?_ | refine ZB tm sdk_specs_ok ?_ | refine ZH ?_ ?_ | refine ZJ (by conv=>lhs; simp [cv,c1,c2]) ?_ | refine ZA ?_ ?_)
       refine Ye ?_
       exact rN_nrm0 2
     | true =>
       rw [h2] at c2
       cases h3 : (a == b) with
       | true =>
         rw [if_pos (by simp [h3])] at hR
         subst hR
         repeat' (first | intro (hb : _ = _) | refine ZV ?_ | refine ZB tm sdk_specs_ok ?_ | refine ZH ?_ ?_ | refine ZJ (by conv=>lhs; simp [cv,c1,c2,h3]) ?_ | refine ZA ?_ ?_)
         refine Ye ?_
         exact rN_nrm0 2
       | false =>
         rw [if_neg (by simp [h1,h2,h3])] at hR
         have ox:=fndK_ok he a b
         have oy:=fndK_ok he b a
         generalize fndK a b l = x at *
         generalize fndK b a l = y at *
         obtain ⟨x1,x2,x3,xq⟩:=x
         obtain ⟨y1,y2,y3,yq⟩:=y
         unfold okK at ox oy
         dsimp only at ox oy hR
         have cP:=ptlS_eq ⟨⟨l,by omega,he⟩,⟨x1,x2,c,xq⟩,ox⟩
         have hl2 : (putK ⟨x1,x2,c,xq⟩ l).length ≤ 9000:=by
           have:=putK_len ⟨x1,x2,c,xq⟩ l
           omega
         have he2 : ∀ y ∈ putK ⟨x1,x2,c,xq⟩ l,okK y:=fun y hy=>by
           rcases putK_mem hy with rfl | hy
           · exact ox
           · exact he y hy
         generalize putK ⟨x1,x2,c,xq⟩ l = L1 at *
         have cQ:=ptlS_eq ⟨⟨L1,hl2,he2⟩,⟨y1,y2,c,yq⟩,oy⟩
         generalize putK ⟨y1,y2,c,yq⟩ L1 = L2 at *
         simp only [Nts.v,lkC] at cP cQ cx cy
         subst hR
         clear hv h1 h2 ox oy hl2 he2
         repeat' (first | intro (hb : _ = _) | refine ZV ?_ | refine ZB tm sdk_specs_ok ?_ | refine ZH ?_ ?_ | refine ZJ (by conv=>lhs; simp [cv,c1,c2,h3,cx,cy,cP,cQ]) ?_ | refine ZA ?_ ?_)
         refine Ye ?_
         exact rN_nrm L2 0
def tchB (n : Int) (l : Lk) : Bool := l.fr == n || l.to == n
def fgtL (n : Int) (out : List Lk) : List Lk → List Lk
 | []=>out
 | l :: r=>fgtL n (if tchB n l then putK ⟨l.fr,l.to,l.cut,[]⟩ out else out) r
noncomputable def fgtN (ls : List Lk) (n : Int) : List Lk := if validK ls = false then ls else fgtL n ls ls
structure Nt4 where
 ls : List Lk
 bd : ls.length ≤ 4000
 bq : ∀ l ∈ ls,okK l
def Nt4.n (d : Nt4) : Nts := ⟨d.ls,by have := d.bd; omega,d.bq⟩
noncomputable def fgtS : SpecFn := mkS (fun d : Nt4 × Int => [d.1.n.v, .int .i64 d.2]) fun d => (.agg [.list 4 ((fgtN d.1.ls d.2).map lkC)],[])
theorem fgtS_eq (d : Nt4) (n : Int) : fgtS [d.n.v, .int .i64 n] [] = some (.agg [.list 4 ((fgtN d.ls n).map lkC)],[]) :=
 mkS_eq (enc:=fun d : Nt4 × Int=>[d.1.n.v,AV.int .i64 d.2]) (res:=fun d=>(.agg [.list 4 ((fgtN d.1.ls d.2).map lkC)],[])) (fun x y h=>by
   obtain ⟨⟨l,b1,b2⟩,b⟩:=x
   obtain ⟨⟨l',b1',b2'⟩,b'⟩:=y
   simp only [List.cons.injEq,AV.int.injEq,true_and,and_true] at h
   obtain ⟨h1,rfl⟩:=h
   have h2:=Nts.v_inj h1
   simp only [Nt4.n,Nts.mk.injEq] at h2
   subst h2
   rfl) (d,n)
theorem fgt_ok : FnC Tryz.prog 18 fgtS := by
 refine FnC.walkN 18 (fn:=Tryz.f18) [24] Tryz.func18 rfl (by kernel_rfl) (fun x=>?_) (fun x=>⟨_,nts_nrmR _⟩)
 obtain ⟨⟨l,hl,he⟩,n⟩:=x
 have cv:=vkS_eq ⟨l,by omega,he⟩
 simp only [Nts.v] at cv
 change W _ (RetNf _ _ _ (.agg [.list 4 ((fgtN l n).map lkC)]) []) _ _ ⟨36,[(0, .agg [.list 4 (l.map lkC)]),(1, .int .i64 n)],[]⟩
 generalize hR : fgtN l n = R
 unfold fgtN at hR
 have cap : l.length ≤ 9223372036854775807:=by omega
 cases hv : validK l with
 | false =>
   rw [if_pos hv] at hR
   subst hR
   rw [hv] at cv
   repeat' (first | intro (hb : _ = _) | refine ZV ?_ | refine ZB tm sdk_specs_ok ?_ | refine ZH ?_ ?_ | refine ZJ (by conv=>lhs; simp [cv]) ?_ | refine ZA ?_ ?_)
   refine Ye ?_
   exact nts_nrmR l
 | true =>
   rw [if_neg (by simp [hv])] at hR
   rw [hv] at cv
   repeat' (first | intro (hb : _ = _) | refine ZV ?_ | refine ZB tm sdk_specs_ok ?_ | refine ZH ?_ ?_ | refine ZJ (by conv=>lhs; simp [cv,cap]) ?_ | refine ZA ?_ ?_)
   refine W.loop rfl (ι:={ q : Nat × List Lk × NL ABlk // q.1 ≤ l.length ∧ fgtL n q.2.1 (l.drop q.1) = R ∧ q.2.1.length ≤ l.length + q.1 ∧ (∀ y ∈ q.2.1,okK y) ∧ lk q.2.2 80 = some { gen:=1,kind:=2,elem:=24,size:=1,inl:=false,rows:=[[.nils]] } ∧ lk q.2.2 96 = some { gen:=1,kind:=2,elem:=24,size:=1,inl:=false,rows:=[[.list 4 (q.2.1.map lkC)]] } })
     (fun q=>⟨36,[(1, .int .i64 n),(4, .ptr 80 1 0 0),(5, .ptr 96 1 0 0),(14, .list 4 (l.map lkC)),(15, .int .i64 l.length),(16, .int .i64 (q.1.1 : Nat))],q.1.2.2⟩) (fun q=>l.length - q.1.1)
     ⟨(0,l,_),by simp,by simpa using hR,by simp,he,by simp [lk,lk_st],by simp [lk,lk_st]⟩ (AS.le_of rfl ⟨rfl,rfl,rfl,rfl,rfl,rfl,trivial⟩ (fun _=>rfl)) ?_
   clear cv hR hv
   rintro ⟨⟨k,o,H⟩,hk,res,ho,hoe,g4,g5⟩
   dsimp only at hk res ho hoe g4 g5 ⊢
   by_cases hk2 : k = l.length
   · subst hk2
     rw [List.drop_length] at res
     have res : o = R:=res
     subst res
     repeat' (first | intro (hb : _ = _) | refine ZV ?_ | refine ZB tm sdk_specs_ok ?_ | refine ZH ?_ ?_ | refine ZJ (by conv=>lhs; simp [g4,g5]) ?_ | refine ZA ?_ ?_)
     refine Ye ?_
     exact nts_nrmR o
   · have hlt : k < l.length:=by omega
     obtain ⟨e,hr⟩:=get_lt hlt
     have hm : (l.map lkC)[k]? = some (lkC e):=by rw [List.getElem?_map,hr]; rfl
     have hd : l.drop k = e :: l.drop (k + 1):=by
       obtain ⟨h1,h2⟩:=List.getElem?_eq_some_iff.1 hr
       rw [List.drop_eq_getElem_cons h1,h2]
     rw [hd,fgtL] at res
     have q1 : (k : Int) < l.length:=by omega
     have q2 : ¬ l.length ≤ k:=by omega
     have hw : IntKind.i64.wrap ((k : Int) + 1) = ((k + 1 : Nat) : Int):=w64 (by omega) (by omega)
     obtain ⟨e1,e2,e3,q⟩:=e
     have cP:=ptlS_eq ⟨⟨o,by omega,hoe⟩,⟨e1,e2,e3,[]⟩,Nat.zero_le _⟩
     have hpl:=putK_len ⟨e1,e2,e3,[]⟩ o
     have hpm : ∀ y ∈ putK ⟨e1,e2,e3,[]⟩ o,okK y:=fun y hy=>by
       rcases putK_mem hy with rfl | hy
       · exact Nat.zero_le _
       · exact hoe y hy
     simp only [Nts.v,lkC,List.map_nil] at hm cP
     unfold tchB at res
     dsimp only at res
     generalize putK ⟨e1,e2,e3,[]⟩ o = P at *
     clear hd hr
     by_cases i0 : (e1 == n || e2 == n) = true
     · rw [if_pos i0] at res
       have i1 : (e1 == n) = true ∨ ((e1 == n) = false ∧ (e2 == n) = true):=by
         cases h : (e1 == n)
         · exact .inr ⟨rfl,by simpa [h] using i0⟩
         · exact .inl rfl
       clear i0
       rcases i1 with i1 | ⟨i1,i2⟩
       · repeat' (first | intro (hb : _ = _) | refine ZV ?_ | refine ZB (id:=5) tm sdk_specs_ok ?_ | refine ZB (id:=6) tm sdk_specs_ok ?_ | refine ZB (id:=7) tm sdk_specs_ok ?_ | refine ZB (id:=8) tm sdk_specs_ok ?_ | refine ZH ?_ ?_ | refine ZJ (by conv=>lhs; simp [q1,q2,hm,i1]) ?_ | refine ZA ?_ ?_)
         refine W.nrmB 128 (leafs Tryz.prog 70) (by simp [lk_st]; rfl) rfl ?_
         simp only [List.map_cons,List.map_nil,lkC_nrm0]
         simp only [lkC,List.map_nil]
         repeat' (first | intro (hb : _ = _) | refine ZV ?_ | refine ZB tm sdk_specs_ok ?_ | refine ZH ?_ ?_ | refine ZJ (by conv=>lhs; simp [g4,g5,cP,hw]) ?_ | refine ZA ?_ ?_)
         exact ⟨⟨(k + 1,P,_),hlt,res,by dsimp only; omega,hpm,by simp [lk_st,g4],by simp [lk_st]⟩,by dsimp only; omega,AS.le_of rfl ⟨rfl,rfl,rfl,rfl,rfl,rfl,trivial⟩ (fun _=>rfl)⟩
       · repeat' (first | intro (hb : _ = _) | refine ZV ?_ | refine ZB (id:=5) tm sdk_specs_ok ?_ | refine ZB (id:=6) tm sdk_specs_ok ?_ | refine ZB (id:=7) tm sdk_specs_ok ?_ | refine ZB (id:=8) tm sdk_specs_ok ?_ | refine ZH ?_ ?_ | refine ZJ (by conv=>lhs; simp [q1,q2,hm,i1,i2]) ?_ | refine ZA ?_ ?_)
         refine W.nrmB 128 (leafs Tryz.prog 70) (by simp [lk_st]; rfl) rfl ?_
         simp only [List.map_cons,List.map_nil,lkC_nrm0]
         simp only [lkC,List.map_nil]
         repeat' (first | intro (hb : _ = _) | refine ZV ?_ | refine ZB tm sdk_specs_ok ?_ | refine ZH ?_ ?_ | refine ZJ (by conv=>lhs; simp [g4,g5,cP,hw]) ?_ | refine ZA ?_ ?_)
         exact ⟨⟨(k + 1,P,_),hlt,res,by dsimp only; omega,hpm,by simp [lk_st,g4],by simp [lk_st]⟩,by dsimp only; omega,AS.le_of rfl ⟨rfl,rfl,rfl,rfl,rfl,rfl,trivial⟩ (fun _=>rfl)⟩
     · rw [if_neg i0] at res
       have i1 : (e1 == n) = false:=by
         cases h : (e1 == n)
         · rfl
         · rw [h] at i0; simp at i0
       have i2 : (e2 == n) = false:=by rw [i1] at i0; simpa using i0
       repeat' (first | intro (hb : _ = _) | refine ZV ?_ | refine ZB tm sdk_specs_ok ?_ | refine ZH ?_ ?_ | refine ZJ (by conv=>lhs; simp [q1,q2,hm,i1,i2,hw]) ?_ | refine ZA ?_ ?_)
       exact ⟨⟨(k + 1,o,_),hlt,res,by dsimp only; omega,hoe,by simp [lk_st,g4],by simp [lk_st,g5]⟩,by dsimp only; omega,AS.le_of rfl ⟨rfl,rfl,rfl,rfl,rfl,rfl,trivial⟩ (fun _=>rfl)⟩
def pC (p : Int × Int) : List AV := [.int .i64 p.1, .int .i64 p.2]
def rdyL (ls : List Lk) : List (Int × Int) := (ls.filter fun l => !l.cut).map fun l => (l.fr,l.to)
noncomputable def rdyN (ls : List Lk) : List (Int × Int) := if validK ls = false then [] else rdyL ls
noncomputable def rdyS : SpecFn := mkS (fun d : Nts => [d.v]) fun d => (.list 2 ((rdyN d.ls).map pC),[])
theorem rdyS_eq (d : Nts) : rdyS [d.v] [] = some (.list 2 ((rdyN d.ls).map pC),[]) :=
 mkS_eq (enc:=fun d : Nts=>[d.v]) (res:=fun d=>(.list 2 ((rdyN d.ls).map pC),[])) (fun x y h=>by
   simp only [List.cons.injEq,and_true] at h
   cases Nts.v_inj h
   rfl) d
theorem pC_nrm (p : Int × Int) : nrmL Tryz.prog (leafs Tryz.prog 41) (pC p) = pC p := by simp [pC,nrmL,nrmV]
theorem uP2 : Tryz.prog.underlying 60 = some (.slice 41) := by kernel_rfl
theorem cP2 : Tryz.prog.cellsOf 41 = 2 := by kernel_rfl
theorem rdy_nrmR (l : List (Int × Int)) : nrmR Tryz.prog [60] (.list 2 (l.map pC)) = .list 2 (l.map pC) := by
 simp only [nrmR,nrmV,uP2,nrmRows_map pC_nrm]
theorem rdy_nrm0 : nrmR Tryz.prog [60] .nils = .list 2 (([] : List (Int × Int)).map pC) := by
 simp only [nrmR,nrmV,uP2,cP2,List.map_nil]
noncomputable def rdy_specs : NL Spec := [(22,⟨1,vkS⟩)]
theorem rdy_specs_ok : ∀ p ∈ rdy_specs,FnC Tryz.prog p.1 p.2.fn := by
 simp only [rdy_specs,List.mem_cons,List.not_mem_nil,or_false]
 rintro p rfl
 exact rvk21_ok
attribute [local simp] rdy_specs
theorem rdy_ok : FnC Tryz.prog 20 rdyS := by
 refine FnC.walkN 20 (fn:=Tryz.f20) [60] Tryz.func20 rfl (by kernel_rfl) (fun x=>?_) (fun x=>⟨_,rdy_nrmR _⟩)
 obtain ⟨l,hl,he⟩:=x
 have cv:=vkS_eq ⟨l,hl,he⟩
 simp only [Nts.v] at cv
 change W _ (RetNf _ _ _ (.list 2 ((rdyN l).map pC)) []) _ _ ⟨29,[(0, .agg [.list 4 (l.map lkC)])],[]⟩
 generalize hR : rdyN l = R
 unfold rdyN at hR
 have cap : l.length ≤ 9223372036854775807:=by omega
 cases hv : validK l with
 | false =>
   rw [if_pos hv] at hR
   subst hR
   rw [hv] at cv
   repeat' (first | intro (hb : _ = _) | refine ZV ?_ | refine ZB tm rdy_specs_ok ?_ | refine ZH ?_ ?_ | refine ZJ (by conv=>lhs; simp [cv]) ?_ | refine ZA ?_ ?_)
   refine Ye ?_
   exact rdy_nrm0
 | true =>
   rw [if_neg (by simp [hv])] at hR
   rw [hv] at cv
   repeat' (first | intro (hb : _ = _) | refine ZV ?_ | refine ZB (id:=0) tm rdy_specs_ok ?_ | refine ZB (id:=1) tm rdy_specs_ok ?_ | refine ZB (id:=2) tm rdy_specs_ok ?_ | refine ZB (id:=3) tm rdy_specs_ok ?_ | refine ZB (id:=4) tm rdy_specs_ok ?_ | refine ZH ?_ ?_ | refine ZJ (by conv=>lhs; simp [cv,cap]) ?_ | refine ZA ?_ ?_)
   refine W.phantom (t:=3) 20000 41 2 true (by rfl) (by rfl) (by decide) ?_
   refine W.loop rfl (ι:={ q : Nat × List (Int × Int) × Nat × NL ABlk // q.1 ≤ l.length ∧ q.2.1 ++ rdyL (l.drop q.1) = R ∧ q.2.1.length ≤ q.1 ∧ lk q.2.2.2 20000 = some { gen:=q.2.2.1,kind:=2,elem:=41,size:=2,inl:=true,rows:=q.2.1.map pC } })
     (fun q=>⟨29,[(3, .sl 20000 q.1.2.2.1 0 q.1.2.1.length),(10, .list 4 (l.map lkC)),(11, .int .i64 l.length),(12, .int .i64 (q.1.1 : Nat))],q.1.2.2.2⟩) (fun q=>l.length - q.1.1)
     ⟨(0,[],0,_),by simp,by simpa using hR,by simp,by simp [lk,lk_st]⟩ (AS.le_of rfl ⟨rfl,rfl,rfl,rfl,trivial⟩ (fun _=>rfl)) ?_
   clear cv hR hv
   rintro ⟨⟨k,T,g,H⟩,hk,res,hT,gM⟩
   dsimp only at hk res hT gM ⊢
   by_cases hk2 : k = l.length
   · subst hk2
     rw [List.drop_length] at res
     have res : T = R:=by simpa [rdyL] using res
     subst res
     have tT : List.take T.length (T.map pC) = T.map pC:=List.take_of_length_le (by simp)
     repeat' (first | intro (hb : _ = _) | refine ZV ?_ | refine ZB tm rdy_specs_ok ?_ | refine ZH ?_ ?_ | refine ZJ (by conv=>lhs; simp) ?_ | refine ZA ?_ ?_)
     refine RetNf.dataE rfl (by conv=>lhs; simp) (by conv=>lhs; simp [frqT,frqV,frqL,frq1,frz1,AP.run,gM,tT]) (by first | rfl | simp [inlT,inlV]) ?_
     exact rdy_nrmR T
   · have hlt : k < l.length:=by omega
     obtain ⟨e,hr⟩:=get_lt hlt
     have hm : (l.map lkC)[k]? = some (lkC e):=by rw [List.getElem?_map,hr]; rfl
     have hd : l.drop k = e :: l.drop (k + 1):=by
       obtain ⟨h1,h2⟩:=List.getElem?_eq_some_iff.1 hr
       rw [List.drop_eq_getElem_cons h1,h2]
     rw [hd] at res
     have q1 : (k : Int) < l.length:=by omega
     have q2 : ¬ l.length ≤ k:=by omega
     have hw : IntKind.i64.wrap ((k : Int) + 1) = ((k + 1 : Nat) : Int):=w64 (by omega) (by omega)
     obtain ⟨e1,e2,e3,q⟩:=e
     simp only [lkC] at hm
     clear hd hr
     cases e3 with
     | true =>
       have res : T ++ rdyL (l.drop (k + 1)) = R:=by rw [← res]; rfl
       repeat' (first | intro (hb : _ = _) | refine ZV ?_ | refine ZB tm rdy_specs_ok ?_ | refine ZH ?_ ?_ | refine ZJ (by conv=>lhs; simp [q1,q2,hm,hw]) ?_ | refine ZA ?_ ?_)
       exact ⟨⟨(k + 1,T,g,_),hlt,res,by dsimp only; omega,by simp [lk_st,gM]⟩,by dsimp only; omega,AS.le_of rfl ⟨rfl,rfl,rfl,rfl,trivial⟩ (fun _=>rfl)⟩
     | false =>
       have res : (T ++ [(e1,e2)]) ++ rdyL (l.drop (k + 1)) = R:=by rw [← res,List.append_assoc]; rfl
       have hrow : T.map pC ++ [[.int .i64 e1, .int .i64 e2]] = (T ++ [(e1,e2)]).map pC:=by simp [pC]
       have hl2 : (T ++ [(e1,e2)]).length = T.length + 1:=by simp
       have y1 : T.length ≤ maxLen:=by simp only [maxLen]; omega
       have y2 : (T.length + 1) * 16 ≤ 140737488355328:=by omega
       have y4 : T.length + 1 ≤ maxLen:=by simp only [maxLen]; omega
       have fT : firstRows T.length (T.map pC) = T.map pC:=first_all (by simp)
       generalize T ++ [(e1,e2)] = T2 at *
       have hT2 : T2.length ≤ k + 1:=by omega
       repeat' (first | intro (hb : _ = _) | refine ZV ?_ | refine ZB tm rdy_specs_ok ?_ | refine ZH ?_ ?_ | refine ZJ (by conv=>lhs; simp [q1,q2,hm,hw,gM,y1,y2,y4,fT,hrow,m1]) ?_ | refine ZA ?_ ?_)
       exact ⟨⟨(k + 1,T2,g + 1,_),hlt,res,hT2,by simp [lk_st]⟩,by dsimp only; omega,AS.le_of rfl ⟨by simp [lk,hl2],rfl,rfl,rfl,trivial⟩ (fun _=>rfl)⟩
end
section
attribute [local simp] instA slice3A slice3C
attribute [-simp] mkv
attribute [local simp] mkv_hd hdA_cons hdA_ob hdA_ob'
theorem Nt8.inj {a b : Nt8} (h : a.ls = b.ls) : a = b := by
 obtain ⟨l,h1,h2⟩:=a
 obtain ⟨l',h1',h2'⟩:=b
 cases h
 rfl
theorem fnp_q {l : List Lk} (hs : SrtK l) (f t : Int) : (fnpL l f t).q = (fndK f t l).q ∧ (fnpL l f t).cut = (fndK f t l).cut := by
 unfold fnpL
 split
 · exact ⟨rfl,rfl⟩
 · rename_i h
   rw [(chg_none hs (by simpa using h)).1]
   exact ⟨rfl,rfl⟩
theorem fnd_ft {l : List Lk} (f t : Int) : (fndK f t l).fr = f ∧ (fndK f t l).to = t := by
 unfold fndK
 cases h : l.find? (lkIs f t) with
 | none=>exact ⟨rfl,rfl⟩
 | some x =>
   have:=List.find?_some h
   exact lkIsK_iff.1 this
noncomputable def sdpS : SpecFn := mkS (fun d : Nt8 × Msg => [.agg [.list 4 (d.1.ls.map lkC)], .agg d.2.v]) fun d => (rN (sndN d.1.ls d.2).1 (sndN d.1.ls d.2).2,[])
theorem sdpS_eq (d : Nt8) (m : Msg) : sdpS [.agg [.list 4 (d.ls.map lkC)], .agg m.v] [] = some (rN (sndN d.ls m).1 (sndN d.ls m).2,[]) :=
 mkS_eq (enc:=fun d : Nt8 × Msg=>[AV.agg [.list 4 (d.1.ls.map lkC)], .agg d.2.v]) (res:=fun d=>(rN (sndN d.1.ls d.2).1 (sndN d.1.ls d.2).2,[])) (fun x y h=>by
   obtain ⟨a,b⟩:=x
   obtain ⟨a',b'⟩:=y
   simp only [List.cons.injEq,AV.agg.injEq,AV.list.injEq,true_and,and_true] at h
   obtain ⟨h1,h2⟩:=h
   rw [Nt8.inj (lks_inj h1),msgv1_inj h2]) (d,m)
noncomputable def sdp_specs : NL Spec := [(21,⟨1,vkS⟩),(27,⟨1,boS okN⟩),(28,⟨1,fnpS⟩),(29,⟨1,cobS⟩),(30,⟨3,chsS⟩)]
theorem sdp_specs_ok : ∀ p ∈ sdp_specs,FnC Tryz.prog p.1 p.2.fn := by
 simp only [sdp_specs,List.mem_cons,List.not_mem_nil,or_false]
 rintro p (rfl | rfl | rfl | rfl | rfl)
 · exact vap2_ok
 · exact pnode_ok
 · exact fnp_ok
 · exact cob_ok
 · exact chs_ok
attribute [local simp] sdp_specs
theorem sdp_ok : FnC Tryz.prog 9 sdpS := by
 refine FnC.walkN 9 (fn:=Tryz.f9) [24,56] Tryz.func9 rfl (by kernel_rfl) (fun x=>?_) (fun x=>⟨_,rN_nrm _ _⟩)
 obtain ⟨⟨l,l8,he⟩,m⟩:=x
 have hl : l.length ≤ 9000:=by omega
 have cv:=vkS_eq ⟨l,hl,he⟩
 have c1:=boS_eq okN m.fr
 have c2:=boS_eq okN m.to
 simp only [Nts.v] at cv
 change W _ (RetNf _ _ _ (rN (sndN l m).1 (sndN l m).2) []) _ _ ⟨45,[(0, .agg [.list 4 (l.map lkC)]),(1, .agg m.v)],[]⟩
 generalize hR : sndN l m = R
 unfold sndN at hR
 dsimp only at hR
 have rfm:=refsL_msg m
 have rnm:=fun f=>renL_msg f m
 cases hv : validK l with
 | false =>
   rw [if_pos hv] at hR
   subst hR
   rw [hv] at cv
   obtain ⟨u1,u2,u3,u4,u5,mo,u6,u7,u8,u9⟩:=m
   repeat' (first | intro (hb : _ = _) | refine ZV ?_ | refine ZB tm sdp_specs_ok ?_ | refine ZH ?_ ?_ | refine ZJ (by conv=>lhs; simp [cv]) ?_ | refine ZA ?_ ?_)
   refine Ye ?_
   exact rN_nrm0 1
 | true =>
   have hs:=validK_srt hv
   rw [if_neg (by simp [hv])] at hR
   rw [hv] at cv
   have ce:=fnpS_eq ⟨⟨l,hl,he⟩,hs,by show l.length ≤ 8999; omega⟩ m.fr m.to
   have cc:=chsS_eq ⟨⟨l,hl,he⟩,hs,by show l.length ≤ 8999; omega⟩ m.fr m.to m
   dsimp only at ce cc
   obtain ⟨eq1, -⟩:=fnp_q hs m.fr m.to
   have hsl : sndL l m.fr m.to m = putK ⟨(fndK m.fr m.to l).fr,(fndK m.fr m.to l).to,(fndK m.fr m.to l).cut,(fndK m.fr m.to l).q ++ [m]⟩ l:=rfl
   rw [hsl] at cc
   have oe:=fndK_ok he m.fr m.to
   unfold okK at oe
   generalize fndK m.fr m.to l = e at *
   generalize fnpL l m.fr m.to = e' at *
   generalize putK ⟨e.fr,e.to,e.cut,e.q ++ [m]⟩ l = L at *
   have y4 : e'.q.length ≤ 9223372036854775807:=by rw [eq1]; omega
   rw [← eq1] at hR
   have cm:=cobS_eq m.obj
   simp only [mB] at cc
   clear hsl eq1 oe
   obtain ⟨a1,a2,a3,q⟩:=e'
   obtain ⟨u1,u2,u3,u4,u5,mo,u6,u7,u8,u9⟩:=m
   simp only [lkC] at ce
   simp only [Msg.v] at cc rfm rnm
   dsimp only at *
   cases hn1 : okN u1 with
   | false =>
     rw [if_pos (by simp [hn1])] at hR
     subst hR
     rw [hn1] at c1
     repeat' (first | intro (hb : _ = _) | refine ZV ?_ | refine ZB tm sdp_specs_ok ?_ | refine ZH ?_ ?_ | refine ZJ (by conv=>lhs; simp [cv,c1]) ?_ | refine ZA ?_ ?_)
     refine Ye ?_
     exact rN_nrm0 2
   | true =>
     rw [hn1] at c1
     cases hn2 : okN u2 with
     | false =>
       rw [if_pos (by simp [hn2])] at hR
       subst hR
       rw [hn2] at c2
       repeat' (first | intro (hb : _ = _) | refine ZV ?_ | refine ZB tm sdp_specs_ok ?_ | refine ZH ?_ ?_ | refine ZJ (by conv=>lhs; simp [cv,c1,c2]) ?_ | refine ZA ?_ ?_)
       refine Ye ?_
       exact rN_nrm0 2
     | true =>
       rw [hn2] at c2
       rw [if_neg (by simp [hn1,hn2])] at hR
       by_cases hb : 4096 ≤ q.length
       · rw [if_pos hb] at hR
         subst hR
         have b1 : (4096 : Int) ≤ q.length:=by omega
         repeat' (first | intro (hb : _ = _) | refine ZV ?_ | refine ZB tm sdp_specs_ok ?_ | refine ZH ?_ ?_ | refine ZJ (by conv=>lhs; simp [cv,c1,c2,ce,y4,b1]) ?_ | refine ZA ?_ ?_)
         refine Ye ?_
         exact rN_nrm0 9
       · rw [if_neg hb] at hR
         subst hR
         have b1 : ¬ (4096 : Int) ≤ q.length:=by omega
         clear hb hn1 hn2 hv hs
         repeat' (first | intro (hb : _ = _) | refine ZV ?_ | refine ZB tm sdp_specs_ok ?_ | refine ZH ?_ ?_ | refine ZJ (by conv=>lhs; simp [cv,c1,c2,ce,b1,y4,cm,cc,rfm,rnm]) ?_ | refine ZA ?_ ?_)
         refine Ye ?_
         exact rN_nrm L 0
noncomputable def dlpS : SpecFn := mkS (fun d : Nt8 × Int × Int => [.agg [.list 4 (d.1.ls.map lkC)], .int .i64 d.2.1, .int .i64 d.2.2]) fun d => (rDl (dlvN d.1.ls d.2.1 d.2.2).1 (dlvN d.1.ls d.2.1 d.2.2).2.1 (dlvN d.1.ls d.2.1 d.2.2).2.2,[])
theorem dlpS_eq (d : Nt8) (f t : Int) : dlpS [.agg [.list 4 (d.ls.map lkC)], .int .i64 f, .int .i64 t] [] = some (rDl (dlvN d.ls f t).1 (dlvN d.ls f t).2.1 (dlvN d.ls f t).2.2,[]) :=
 mkS_eq (enc:=fun d : Nt8 × Int × Int=>[AV.agg [.list 4 (d.1.ls.map lkC)], .int .i64 d.2.1, .int .i64 d.2.2]) (res:=fun d=>(rDl (dlvN d.1.ls d.2.1 d.2.2).1 (dlvN d.1.ls d.2.1 d.2.2).2.1 (dlvN d.1.ls d.2.1 d.2.2).2.2,[])) (fun x y h=>by
   obtain ⟨a,b,c⟩:=x
   obtain ⟨a',b',c'⟩:=y
   simp only [List.cons.injEq,AV.agg.injEq,AV.list.injEq,AV.int.injEq,true_and,and_true] at h
   obtain ⟨h1,rfl,rfl⟩:=h
   rw [Nt8.inj (lks_inj h1)]) (d,f,t)
noncomputable def dlp_specs : NL Spec := [(21,⟨1,vkS⟩),(28,⟨1,fnpS⟩),(30,⟨3,chdS⟩)]
theorem dlp_specs_ok : ∀ p ∈ dlp_specs,FnC Tryz.prog p.1 p.2.fn := by
 simp only [dlp_specs,List.mem_cons,List.not_mem_nil,or_false]
 rintro p (rfl | rfl | rfl)
 · exact vap2_ok
 · exact fnp_ok
 · exact chd_ok
attribute [local simp] dlp_specs
theorem dlp_ok : FnC Tryz.prog 12 dlpS := by
 refine FnC.walkN 12 (fn:=Tryz.f12) [46,24,56] Tryz.func12 rfl (by kernel_rfl) (fun x=>?_) (fun x=>⟨_,rDl_nrm _ _ _⟩)
 obtain ⟨⟨l,l8,he⟩,f,t⟩:=x
 have hl : l.length ≤ 9000:=by omega
 have cv:=vkS_eq ⟨l,hl,he⟩
 simp only [Nts.v] at cv
 change W _ (RetNf _ _ _ (rDl (dlvN l f t).1 (dlvN l f t).2.1 (dlvN l f t).2.2) []) _ _ ⟨40,[(0, .agg [.list 4 (l.map lkC)]),(1, .int .i64 f),(2, .int .i64 t)],[]⟩
 generalize hR : dlvN l f t = R
 unfold dlvN at hR
 dsimp only at hR
 cases hv : validK l with
 | false =>
   rw [if_pos hv] at hR
   subst hR
   rw [hv] at cv
   repeat' (first | intro (hb : _ = _) | refine ZV ?_ | refine ZB tm dlp_specs_ok ?_ | refine ZH ?_ ?_ | refine ZJ (by conv=>lhs; simp [cv,zO]) ?_ | refine ZA ?_ ?_)
   refine Ye ?_
   exact rDl_nrm0 1
 | true =>
   have hs:=validK_srt hv
   rw [if_neg (by simp [hv])] at hR
   rw [hv] at cv
   have ce:=fnpS_eq ⟨⟨l,hl,he⟩,hs,by show l.length ≤ 8999; omega⟩ f t
   have cc:=fun (m : Msg) (r : List Msg) (h : (fndK f t l).q = m :: r)=>chdS_eq ⟨⟨l,hl,he⟩,hs,by show l.length ≤ 8999; omega⟩ f t m r h
   dsimp only at ce cc
   obtain ⟨eq1,eq2⟩:=fnp_q hs f t
   have hsl : ∀ r,dlvL l f t r = putK ⟨(fndK f t l).fr,(fndK f t l).to,(fndK f t l).cut,r⟩ l:=fun _=>rfl
   simp only [hsl] at cc
   have oe:=fndK_ok he f t
   unfold okK at oe
   generalize fndK f t l = e at *
   generalize fnpL l f t = e' at *
   have y4 : e'.q.length ≤ 9223372036854775807:=by rw [eq1]; omega
   obtain ⟨a1,a2,a3,q⟩:=e'
   simp only [lkC] at ce
   dsimp only at eq1 eq2 y4
   rw [← eq1] at cc
   cases hq : q with
   | nil =>
     rw [← eq1,hq] at hR
     dsimp only at hR
     subst hR
     rw [hq] at ce
     repeat' (first | intro (hb : _ = _) | refine ZV ?_ | refine ZB tm dlp_specs_ok ?_ | refine ZH ?_ ?_ | refine ZJ (by conv=>lhs; simp [cv,ce,zO]) ?_ | refine ZA ?_ ?_)
     refine Ye ?_
     exact rDl_nrm0 6
   | cons m r =>
     rw [← eq1,hq] at hR
     dsimp only at hR
     rw [← eq2] at hR
     have cc:=cc m r hq
     rw [← eq2] at cc
     generalize putK ⟨e.fr,e.to,a3,r⟩ l = L at *
     have h0 : ((q.length : Int) == 0) = false:=by rw [hq]; simp; omega
     clear hq eq1 eq2 oe hsl
     cases a3 with
     | true =>
       rw [if_pos rfl] at hR
       subst hR
       repeat' (first | intro (hb : _ = _) | refine ZV ?_ | refine ZB tm dlp_specs_ok ?_ | refine ZH ?_ ?_ | refine ZJ (by conv=>lhs; simp [cv,ce,zO,h0,y4]) ?_ | refine ZA ?_ ?_)
       refine Ye ?_
       exact rDl_nrm0 8
     | false =>
       rw [if_neg (by decide)] at hR
       subst hR
       have rfz:=refsL_mz
       have rnz:=fun f=>renL_mz f
       have rfm:=refsL_msg m
       have rnm:=fun f=>renL_msg f m
       obtain ⟨u1,u2,u3,u4,u5,mo,u6,u7,u8,u9⟩:=m
       simp only [mzB,mzC,mB,Msg.v] at cc rfz rnz rfm rnm
       simp only [zO,List.cons_append,List.nil_append] at cc rfz rnz
       repeat' (first | intro (hb : _ = _) | refine ZV ?_ | refine ZB tm dlp_specs_ok ?_ | refine ZH ?_ ?_ | refine ZJ (by conv=>lhs; simp [cv,ce,h0,y4,cc,rfz,rnz,rfm,rnm]) ?_ | refine ZA ?_ ?_)
       refine Ye ?_
       exact rDl_nrm ⟨u1,u2,u3,u4,u5,mo,u6,u7,u8,u9⟩ L 0
end
section
attribute [local simp] instA slice3A slice3C
attribute [-simp] mkv
attribute [local simp] mkv_hd hdA_cons hdA_ob hdA_ob'
theorem find_oth {y : Lk} {f t : Int} (h : lkIs f t y = false) (l : List Lk) : (othK y l).find? (lkIs f t) = l.find? (lkIs f t) := by
 unfold othK
 rw [List.find?_filter]
 congr 1
 funext a
 cases ha : lkIs f t a with
 | false=>simp
 | true =>
   obtain ⟨e1,e2⟩:=lkIsK_iff.1 ha
   have : ¬ (a.fr = y.fr ∧ a.to = y.to):=fun ⟨g1,g2⟩=>by
     rw [show lkIs f t y = true from lkIsK_iff.2 ⟨by rw [← g1,e1],by rw [← g2,e2]⟩] at h
     cases h
   by_cases g1 : a.fr = y.fr
   · by_cases g2 : a.to = y.to
     · exact absurd ⟨g1,g2⟩ this
     · simp [g2]
   · simp [g1]
theorem find_putP {y : Lk} {f t : Int} (h : lkIs f t y = false) : ∀ l : List Lk,(putP y l).find? (lkIs f t) = l.find? (lkIs f t)
 | []=>by simp [putP,h]
 | e :: r=>by
   rw [putP]
   split
   · simp only [List.find?_cons,find_putP h r]
   · rw [List.find?_cons,h]
     exact find_oth h (e :: r)
theorem fndK_put {y : Lk} {f t : Int} (h : lkIs f t y = false) (l : List Lk) : fndK f t (putK y l) = fndK f t l := by
 unfold fndK putK restK
 split
 · rw [find_oth h]
 · rw [find_putP h]
noncomputable def cup_specs : NL Spec := [(21,⟨1,vkS⟩),(27,⟨1,boS okN⟩),(30,⟨3,chcS⟩)]
theorem cup_specs_ok : ∀ p ∈ cup_specs,FnC Tryz.prog p.1 p.2.fn := by
 simp only [cup_specs,List.mem_cons,List.not_mem_nil,or_false]
 rintro p (rfl | rfl | rfl)
 · exact vap2_ok
 · exact pnode_ok
 · exact chc_ok
attribute [local simp] cup_specs
theorem pct_ok : FnC Tryz.prog 14 cutS := by
 refine FnC.walkN 14 (fn:=Tryz.f14) [24,56] Tryz.func14 rfl (by kernel_rfl) (fun x=>?_) (fun x=>⟨_,rN_nrm _ _⟩)
 obtain ⟨⟨l,l8,he⟩,a,b,c⟩:=x
 have hl : l.length ≤ 9000:=by omega
 have cv:=vkS_eq ⟨l,hl,he⟩
 have c1:=boS_eq okN a
 have c2:=boS_eq okN b
 simp only [Nts.v] at cv
 change W _ (RetNf _ _ _ (rN (cutN l a b c).1 (cutN l a b c).2) []) _ _ ⟨41,[(0, .agg [.list 4 (l.map lkC)]),(1, .int .i64 a),(2, .int .i64 b),(3, .bool c)],[]⟩
 generalize hR : cutN l a b c = R
 unfold cutN at hR
 dsimp only at hR
 cases hv : validK l with
 | false =>
   rw [if_pos hv] at hR
   subst hR
   rw [hv] at cv
   repeat' (first | intro (hb : _ = _) | refine ZV ?_ | refine ZB tm cup_specs_ok ?_ | refine ZH ?_ ?_ | refine ZJ (by conv=>lhs; simp [cv]) ?_ | refine ZA ?_ ?_)
   refine Ye ?_
   exact rN_nrm0 1
 | true =>
   have hs:=validK_srt hv
   rw [if_neg (by simp [hv])] at hR
   rw [hv] at cv
   cases h1 : okN a with
   | false =>
     rw [if_pos (by simp [h1])] at hR
     subst hR
     rw [h1] at c1
     repeat' (first | intro (hb : _ = _) | refine ZV ?_ | refine ZB tm cup_specs_ok ?_ | refine ZH ?_ ?_ | refine ZJ (by conv=>lhs; simp [cv,c1]) ?_ | refine ZA ?_ ?_)
     refine Ye ?_
     exact rN_nrm0 2
   | true =>
     rw [h1] at c1
     cases h2 : okN b with
     | false =>
       rw [if_pos (by simp [h2])] at hR
       subst hR
       rw [h2] at c2
       repeat' (first | intro (hb : _ = _) | refine ZV ?_ | refine ZB tm cup_specs_ok ?_ | refine ZH ?_ ?_ | refine ZJ (by conv=>lhs; simp [cv,c1,c2]) ?_ | refine ZA ?_ ?_)
       refine Ye ?_
       exact rN_nrm0 2
     | true =>
       rw [h2] at c2
       cases h3 : (a == b) with
       | true =>
         rw [if_pos (by simp [h3])] at hR
         subst hR
         repeat' (first | intro (hb : _ = _) | refine ZV ?_ | refine ZB tm cup_specs_ok ?_ | refine ZH ?_ ?_ | refine ZJ (by conv=>lhs; simp [cv,c1,c2,h3]) ?_ | refine ZA ?_ ?_)
         refine Ye ?_
         exact rN_nrm0 2
       | false =>
         rw [if_neg (by simp [h1,h2,h3])] at hR
         have ne : ¬ a = b:=by simpa using h3
         obtain ⟨xf,xt⟩:=fnd_ft (l:=l) a b
         have cP:=chcS_eq ⟨⟨l,hl,he⟩,hs,by show l.length ≤ 8999; omega⟩ a b c
         have ex : cutL l a b c = putK ⟨(fndK a b l).fr,(fndK a b l).to,c,(fndK a b l).q⟩ l:=rfl
         have nb : lkIs b a ⟨(fndK a b l).fr,(fndK a b l).to,c,(fndK a b l).q⟩ = false:=by
           rw [xf,xt,Bool.eq_false_iff]
           exact fun hc=>ne (lkIsK_iff.1 hc).1
         have ef:=fndK_put nb l
         have ox:=fndK_ok he a b
         dsimp only at cP
         rw [ex] at cP
         have hl2:=putK_len ⟨(fndK a b l).fr,(fndK a b l).to,c,(fndK a b l).q⟩ l
         have he2 : ∀ y ∈ putK ⟨(fndK a b l).fr,(fndK a b l).to,c,(fndK a b l).q⟩ l,okK y:=fun y hy=>by
           rcases putK_mem hy with rfl | hy
           · exact ox
           · exact he y hy
         have hs2:=srt_part hs ⟨(fndK a b l).fr,(fndK a b l).to,c,(fndK a b l).q⟩
         clear xf xt nb ox ex
         rw [← ef] at hR
         generalize putK ⟨(fndK a b l).fr,(fndK a b l).to,c,(fndK a b l).q⟩ l = L1 at *
         have cQ:=chcS_eq ⟨⟨L1,by omega,he2⟩,hs2,by show L1.length ≤ 8999; omega⟩ b a c
         have ey : cutL L1 b a c = putK ⟨(fndK b a L1).fr,(fndK b a L1).to,c,(fndK b a L1).q⟩ L1:=rfl
         dsimp only at cQ
         rw [ey] at cQ
         generalize putK ⟨(fndK b a L1).fr,(fndK b a L1).to,c,(fndK b a L1).q⟩ L1 = L2 at *
         subst hR
         simp only [cB] at cP cQ
         clear hv h1 h2 hl2 he2 ef ey hs hs2 ne
         repeat' (first | intro (hb : _ = _) | refine ZV ?_ | refine ZB tm cup_specs_ok ?_ | refine ZH ?_ ?_ | refine ZJ (by conv=>lhs; simp [cv,c1,c2,h3,cP,cQ]) ?_ | refine ZA ?_ ?_)
         refine Ye ?_
         exact rN_nrm L2 0
end
section
attribute [local simp] instA slice3A slice3C
attribute [-simp] mkv
attribute [local simp] mkv_hd hdA_cons hdA_ob hdA_ob'
theorem fnd_self : ∀ {l : List Lk},SrtK l → ∀ e ∈ l,fndK e.fr e.to l = e
 | [],_,e,h=>by simp at h
 | x :: r,hs,e,h=>by
   have hs:=List.pairwise_cons.1 hs
   rcases List.mem_cons.1 h with rfl | h
   · have : lkIs e.fr e.to e = true:=lkIsK_iff.2 ⟨rfl,rfl⟩
     simp only [fndK,List.find?_cons,this,Option.getD_some]
   · have : lkIs e.fr e.to x = false:=bef_is (hs.1 e h)
     have:=fnd_self hs.2 e h
     simp only [fndK] at this
     simp only [fndK,List.find?_cons, *]
theorem srt_ne {l : List Lk} (hs : SrtK l) {k : Nat} {e : Lk} (hr : l[k]? = some e) : ∀ x ∈ l.drop (k + 1),lkIs x.fr x.to e = false := fun x hx => by
 obtain ⟨h1,h2⟩:=List.getElem?_eq_some_iff.1 hr
 have hd : l.drop k = e :: l.drop (k + 1):=by rw [List.drop_eq_getElem_cons h1,h2]
 have:=hs.drop (i:=k)
 rw [hd] at this
 exact bef_is ((List.pairwise_cons.1 this).1 x hx)
theorem valid_mem {l : List Lk} (h : validK l = true) {k : Nat} {e : Lk} (hr : l[k]? = some e) : lkB e = true := by
 unfold validK at h
 rw [List.all_eq_true] at h
 have:=h k (List.mem_range.2 (List.getElem?_eq_some_iff.1 hr).1)
 unfold goodK at this
 rw [hr] at this
 simp only [Bool.and_eq_true] at this
 exact this.1
theorem lkB_ne {e : Lk} (h : lkB e = true) : ¬ (e.cut = false ∧ e.q = []) := fun ⟨h1,h2⟩ => by
 simp [lkB,h1,h2] at h
noncomputable def fgp_specs : NL Spec := [(21,⟨1,vkS⟩),(38,⟨3,cpnS⟩),(30,⟨3,chfS⟩)]
theorem fgp_specs_ok : ∀ p ∈ fgp_specs,FnC Tryz.prog p.1 p.2.fn := by
 simp only [fgp_specs,List.mem_cons,List.not_mem_nil,or_false]
 rintro p (rfl | rfl | rfl)
 · exact vap2_ok
 · exact cpn_ok
 · exact chf_ok
attribute [local simp] fgp_specs
theorem pfg_ok : FnC Tryz.prog 17 fgtS := by
 refine FnC.walkN 17 (fn:=Tryz.f17) [24] Tryz.func17 rfl (by kernel_rfl) (fun x=>?_) (fun x=>⟨_,nts_nrmR _⟩)
 obtain ⟨⟨l,l4,he⟩,n⟩:=x
 have hl : l.length ≤ 9000:=by omega
 have cv:=vkS_eq ⟨l,hl,he⟩
 have cc:=cpnS_eq ⟨l,hl,he⟩
 simp only [Nts.v,oB] at cv cc
 change W _ (RetNf _ _ _ (.agg [.list 4 ((fgtN l n).map lkC)]) []) _ _ ⟨41,[(0, .agg [.list 4 (l.map lkC)]),(1, .int .i64 n)],[]⟩
 generalize hR : fgtN l n = R
 unfold fgtN at hR
 have cap : l.length ≤ 9223372036854775807:=by omega
 have tk : List.take l.length (l.map lkC) = l.map lkC:=List.take_of_length_le (by simp)
 repeat' (first | intro (hb : _ = _) | refine ZV ?_ | refine ZB (id:=0) tm fgp_specs_ok ?_ | refine ZB (id:=1) tm fgp_specs_ok ?_ | refine ZH ?_ ?_ | refine ZJ (by conv=>lhs; simp [cc]) ?_ | refine ZA ?_ ?_)
 refine W.frzC 96 0 0 rfl rfl rfl rfl (by simp; rfl) (by conv=>lhs; simp [frqT,frqV,frq1,frz1,AP.run,tk]) (by rfl) ?_
 cases hv : validK l with
 | false =>
   rw [if_pos hv] at hR
   subst hR
   rw [hv] at cv
   repeat' (first | intro (hb : _ = _) | refine ZV ?_ | refine ZB tm fgp_specs_ok ?_ | refine ZH ?_ ?_ | refine ZJ (by conv=>lhs; simp [cv]) ?_ | refine ZA ?_ ?_)
   refine Ye ?_
   exact nts_nrmR l
 | true =>
   have hs:=validK_srt hv
   rw [if_neg (by simp [hv])] at hR
   rw [hv] at cv
   repeat' (first | intro (hb : _ = _) | refine ZV ?_ | refine ZB tm fgp_specs_ok ?_ | refine ZH ?_ ?_ | refine ZJ (by conv=>lhs; simp [cv,cap]) ?_ | refine ZA ?_ ?_)
   refine W.loop rfl (ι:={ q : Nat × List Lk × NL ABlk // q.1 ≤ l.length ∧ fgtL n q.2.1 (l.drop q.1) = R ∧ q.2.1.length ≤ l.length + q.1 ∧ (∀ y ∈ q.2.1,okK y) ∧ SrtK q.2.1 ∧ (∀ e ∈ l.drop q.1,fndK e.fr e.to q.2.1 = e) ∧ lk q.2.2 80 = some { gen:=1,kind:=2,elem:=24,size:=1,inl:=false,rows:=[[.nils]] } ∧ lk q.2.2 96 = some { gen:=1,kind:=2,elem:=24,size:=1,inl:=false,rows:=[[.list 4 (q.2.1.map lkC)]] } })
     (fun q=>⟨41,[(1, .int .i64 n),(4, .ptr 80 1 0 0),(5, .ptr 96 1 0 0),(17, .list 4 (l.map lkC)),(18, .int .i64 l.length),(19, .int .i64 (q.1.1 : Nat))],q.1.2.2⟩) (fun q=>l.length - q.1.1)
     ⟨(0,l,_),by simp,by simpa using hR,by simp,he,hs,by simpa using fnd_self hs,by simp [lk,lk_st],by simp [lk,lk_st]⟩ (AS.le_of rfl ⟨rfl,rfl,rfl,rfl,rfl,rfl,trivial⟩ (fun _=>rfl)) ?_
   clear cv cc hR
   rintro ⟨⟨k,o,H⟩,hk,res,ho,hoe,hos,hof,g4,g5⟩
   dsimp only at hk res ho hoe hos hof g4 g5 ⊢
   by_cases hk2 : k = l.length
   · subst hk2
     rw [List.drop_length] at res
     have res : o = R:=res
     subst res
     have q1 : ¬ (l.length : Int) < l.length:=by omega
     repeat' (first | intro (hb : _ = _) | refine ZV ?_ | refine ZB tm fgp_specs_ok ?_ | refine ZH ?_ ?_ | refine ZJ (by conv=>lhs; simp [g4,g5,q1]) ?_ | refine ZA ?_ ?_)
     refine Ye ?_
     exact nts_nrmR o
   · have hlt : k < l.length:=by omega
     obtain ⟨e,hr⟩:=get_lt hlt
     have hm : (l.map lkC)[k]? = some (lkC e):=by rw [List.getElem?_map,hr]; rfl
     have hd : l.drop k = e :: l.drop (k + 1):=by
       obtain ⟨h1,h2⟩:=List.getElem?_eq_some_iff.1 hr
       rw [List.drop_eq_getElem_cons h1,h2]
     rw [hd] at hof
     have hof1:=hof e (by simp)
     have hof2 : ∀ x ∈ l.drop (k + 1),fndK x.fr x.to o = x:=fun x hx=>hof x (by simp [hx])
     rw [hd,fgtL] at res
     have q1 : (k : Int) < l.length:=by omega
     have q2 : ¬ l.length ≤ k:=by omega
     have hw : IntKind.i64.wrap ((k : Int) + 1) = ((k + 1 : Nat) : Int):=w64 (by omega) (by omega)
     have hne:=lkB_ne (valid_mem hv hr)
     have hsn:=srt_ne hs hr
     have hh : hasN o (bsN o e.fr e.to) e.fr e.to = true:=by
       cases hh : hasN o (bsN o e.fr e.to) e.fr e.to with
       | true=>rfl
       | false =>
         have:=(chg_none hos hh).1
         rw [hof1] at this
         exact absurd ⟨by rw [this],by rw [this]⟩ hne
     have cP:=chfS_eq ⟨⟨o,by omega,hoe⟩,hos,by show o.length ≤ 8999; omega⟩ e.fr e.to hh
     have ex : fgtL1 o e.fr e.to = putK ⟨e.fr,e.to,e.cut,[]⟩ o:=by
       unfold fgtL1
       rw [hof1]
     dsimp only at cP
     rw [ex] at cP
     have hpl:=putK_len ⟨e.fr,e.to,e.cut,[]⟩ o
     have hpm : ∀ y ∈ putK ⟨e.fr,e.to,e.cut,[]⟩ o,okK y:=fun y hy=>by
       rcases putK_mem hy with rfl | hy
       · exact Nat.zero_le _
       · exact hoe y hy
     have hps:=srt_part hos ⟨e.fr,e.to,e.cut,[]⟩
     have hpf : ∀ x ∈ l.drop (k + 1),fndK x.fr x.to (putK ⟨e.fr,e.to,e.cut,[]⟩ o) = x:=fun x hx=>by
       rw [fndK_put (by exact hsn x hx)]
       exact hof2 x hx
     obtain ⟨e1,e2,e3,q⟩:=e
     simp only [lkC] at hm cP
     unfold tchB at res
     dsimp only at *
     generalize putK ⟨e1,e2,e3,[]⟩ o = P at *
     clear hd hr hof hof1 hsn hh ex hne hv
     by_cases i0 : (e1 == n || e2 == n) = true
     · rw [if_pos i0] at res
       have i1 : (e1 == n) = true ∨ ((e1 == n) = false ∧ (e2 == n) = true):=by
         cases h : (e1 == n)
         · exact .inr ⟨rfl,by simpa [h] using i0⟩
         · exact .inl rfl
       clear i0
       rcases i1 with i1 | ⟨i1,i2⟩
       · repeat' (first | intro (hb : _ = _) | refine ZV ?_ | refine ZB tm fgp_specs_ok ?_ | refine ZH ?_ ?_ | refine ZJ (by conv=>lhs; simp [q1,q2,hm,i1,g4,g5,cP,hw]) ?_ | refine ZA ?_ ?_)
         exact ⟨⟨(k + 1,P,_),hlt,res,by dsimp only; omega,hpm,hps,hpf,by simp [lk_st,g4],by simp [lk_st]⟩,by dsimp only; omega,AS.le_of rfl ⟨rfl,rfl,rfl,rfl,rfl,rfl,trivial⟩ (fun _=>rfl)⟩
       · repeat' (first | intro (hb : _ = _) | refine ZV ?_ | refine ZB tm fgp_specs_ok ?_ | refine ZH ?_ ?_ | refine ZJ (by conv=>lhs; simp [q1,q2,hm,i1,i2,g4,g5,cP,hw]) ?_ | refine ZA ?_ ?_)
         exact ⟨⟨(k + 1,P,_),hlt,res,by dsimp only; omega,hpm,hps,hpf,by simp [lk_st,g4],by simp [lk_st]⟩,by dsimp only; omega,AS.le_of rfl ⟨rfl,rfl,rfl,rfl,rfl,rfl,trivial⟩ (fun _=>rfl)⟩
     · rw [if_neg i0] at res
       have i1 : (e1 == n) = false:=by
         cases h : (e1 == n)
         · rfl
         · rw [h] at i0; simp at i0
       have i2 : (e2 == n) = false:=by rw [i1] at i0; simpa using i0
       repeat' (first | intro (hb : _ = _) | refine ZV ?_ | refine ZB tm fgp_specs_ok ?_ | refine ZH ?_ ?_ | refine ZJ (by conv=>lhs; simp [q1,q2,hm,i1,i2,hw]) ?_ | refine ZA ?_ ?_)
       exact ⟨⟨(k + 1,o,_),hlt,res,by dsimp only; omega,hoe,hos,hof2,by simp [lk_st,g4],by simp [lk_st,g5]⟩,by dsimp only; omega,AS.le_of rfl ⟨rfl,rfl,rfl,rfl,rfl,rfl,trivial⟩ (fun _=>rfl)⟩
end
end Go.Abs.Nx
