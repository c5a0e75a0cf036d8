/- Wanting, granting, revoking and getting, as the program does. Conditions: none. -/
import Derived.Test.YtmcbpehpogjmoaaNp4
import Derived.Test.YtmcbpehpogjmoaaNp3
import Derived.Test.YtmcbpehpogjmoaaNp1
import Derived.Test.YtmcbpehpogjmoaaAb9
import Derived.Test.YtmcbpehpogjmoaaAb6
namespace Go.Abs.Np
open Go Go.Proofs Go.Abs
set_option maxRecDepth 100000
set_option maxHeartbeats 4000000
set_option linter.unusedSimpArgs false
set_option linter.unusedVariables false
section
attribute [local simp] instA slice3A slice3C
attribute [-simp] mkv
attribute [local simp] mkv_hd hdA_cons hdA_ob hdA_ob'
noncomputable def getL (d : Tks) (id : Int) : Ob × Int := if okM ((fnd id d.toks).getD (tok0 id)).mode = true then (((fnd id d.toks).getD (tok0 id)).obj,0) else (zOb,6)
def rG (o : Ob) (e : Int) : AV := .tup [.agg o.cells, .int .i64 e]
noncomputable def getS : SpecFn := mkS (fun d : Tks × Int => [d.1.v, .int .u64 d.2]) fun d => (rG (getL d.1 d.2).1 (getL d.1 d.2).2,[])
theorem getS_eq (d : Tks) (id : Int) : getS [d.v, .int .u64 id] [] = some (rG (getL d id).1 (getL d id).2,[]) :=
 mkS_eq (enc:=fun d : Tks × Int=>[d.1.v, .int .u64 d.2]) (res:=fun d=>(rG (getL d.1 d.2).1 (getL d.1 d.2).2,[])) (fun x y h=>by
   obtain ⟨a,b⟩:=x
   obtain ⟨a',b'⟩:=y
   simp only [List.cons.injEq,AV.int.injEq,true_and,and_true] at h
   obtain ⟨h,rfl⟩:=h
   cases Tks.v_inj h
   rfl) (d,id)
theorem rG_nrm (o : Ob) (e : Int) : nrmR Try.prog [60,38] (rG o e) = rG o e := by
 simp only [rG,nrmR,nrmL,nrmV,o.nrmL]
theorem rG_nrm0 (e : Int) : nrmR Try.prog [60,38] (.tup [.agg zO, .int .i64 e]) = rG zOb e := by
 simp only [rG,nrmR,nrmL,nrmV,zN_eq]
 rfl
noncomputable def get_specs : NL Spec := [(27,⟨1,fndS⟩),(25,⟨1,boS okM⟩),(24,⟨1,cobS⟩)]
theorem get_specs_ok : ∀ p ∈ get_specs,FnC Try.prog p.1 p.2.fn := by
 simp only [get_specs,List.mem_cons,List.not_mem_nil,or_false]
 rintro p (rfl | rfl | rfl)
 · exact fd_ok
 · exact mo1_ok
 · exact cob_ok
attribute [local simp] get_specs
theorem get_ok : FnC Try.prog 37 getS := by
 refine FnC.walkN 37 (fn:=Try.f37) [60,38] Try.func37 rfl (by kernel_rfl) (fun d=>?_) (fun d=>⟨_,rG_nrm _ _⟩)
 obtain ⟨⟨nd,l,hl⟩,id⟩:=d
 have cf:=fndS_eq ⟨nd,l,hl⟩ id
 simp only [Tks.v] at cf
 change W _ (RetNf _ _ _ (rG (getL ⟨nd,l,hl⟩ id).1 (getL ⟨nd,l,hl⟩ id).2) []) _ _ ⟨18,[(0, .agg [.int .i64 nd, .list 41 (l.map Tok.c)]),(1, .int .u64 id)],[]⟩
 unfold getL
 dsimp only
 generalize (fnd id l).getD (tok0 id) = t at *
 obtain ⟨a1,a2,o,a3,a4,a5⟩:=t
 have cm:=boS_eq okM a2
 have co:=cobS_eq o
 simp only [Tok.c] at cf
 cases h : okM a2 with
 | true =>
   rw [h] at cm
   rw [if_pos rfl]
   repeat' (first | intro (hb : _ = _) | refine ZV ?_ | refine ZB tm get_specs_ok ?_ | refine ZH ?_ ?_ | refine ZJ (by conv=>lhs; simp [cf,cm,co]) ?_ | refine ZA ?_ ?_)
   refine Ye ?_
   exact rG_nrm o 0
 | false =>
   rw [h] at cm
   rw [if_neg (by simp)]
   repeat' (first | intro (hb : _ = _) | refine ZV ?_ | refine ZB tm get_specs_ok ?_ | refine ZH ?_ ?_ | refine ZJ (by conv=>lhs; simp [cf,cm]) ?_ | refine ZA ?_ ?_)
   refine Ye ?_
   exact rG_nrm0 6
noncomputable def gra_specs3 : NL Spec := [(18,⟨1,vaS⟩),(25,⟨1,boS okM⟩),(32,⟨1,fitS⟩),(27,⟨1,fndS⟩),(22,⟨3,wgrS⟩)]
theorem gra_specs3_ok : ∀ p ∈ gra_specs3,FnC Try.prog p.1 p.2.fn := by
 simp only [gra_specs3,List.mem_cons,List.not_mem_nil,or_false]
 rintro p (rfl | rfl | rfl | rfl | rfl)
 · exact vap_ok
 · exact mo1_ok
 · exact fit_ok
 · exact fd_ok
 · exact wgr_ok
attribute [local simp] gra_specs3
theorem grtp_ok : FnC Try.prog 15 grtS := by
 refine FnC.walkN 15 (fn:=Try.f15) [30,38] Try.func15 rfl (by kernel_rfl) (fun d=>?_) (fun d=>⟨_,rT_nrm _ _ _⟩)
 obtain ⟨⟨nd,l,hl⟩,⟨u1,u2,u3,u4,u5,mo,u6,u7,u8,u9⟩⟩:=d
 obtain ⟨q,hq⟩ : ∃ q : Msg,q = ⟨u1,u2,u3,u4,u5,mo,u6,u7,u8,u9⟩:=⟨_,rfl⟩
 have cv:=vaS_eq ⟨nd,l,hl⟩
 have cm:=boS_eq okM u5
 have cz:=fitS_eq mo u4
 have cf:=fndS_eq ⟨nd,l,hl⟩ u4
 have cw:=fun t hs hf=>wgr_eq nd l hl u4 t q hs hf
 simp only [Tks.v] at cv cf
 change W _ (RetNf _ _ _ (rT (grt ⟨nd,l,hl⟩ ⟨u1,u2,u3,u4,u5,mo,u6,u7,u8,u9⟩).1 (grt ⟨nd,l,hl⟩ ⟨u1,u2,u3,u4,u5,mo,u6,u7,u8,u9⟩).2.1 (grt ⟨nd,l,hl⟩ ⟨u1,u2,u3,u4,u5,mo,u6,u7,u8,u9⟩).2.2) []) _ _ ⟨50,[(0, .agg [.int .i64 nd, .list 41 (l.map Tok.c)]),(1, .agg (.int .i64 u1 :: .int .i64 u2 :: .int .i64 u3 :: .int .u64 u4 :: .int .i64 u5 :: (mo.cells ++ [.int .u64 u6, .int .i64 u7, .int .u64 u8, .int .i64 u9])))],[]⟩
 rw [← hq]
 generalize hR : grt ⟨nd,l,hl⟩ q = R
 unfold grt at hR
 dsimp only at hR
 cases hv : valid nd l with
 | false =>
   rw [if_pos hv] at hR
   subst hR
   rw [hv] at cv
   repeat' (first | intro (hb : _ = _) | refine ZV ?_ | refine ZB tm gra_specs3_ok ?_ | refine ZH ?_ ?_ | refine ZJ (by conv=>lhs; simp [cv]) ?_ | refine ZA ?_ ?_)
   refine Ye (rT_nrm0 1)
 | true =>
   rw [if_neg (by simp [hv])] at hR
   rw [hv] at cv
   have hs:=valid_srt hv
   by_cases h3 : u3 = 2
   · have g3 : (u3 != 2) = false:=by simp [h3]
     rw [if_neg (by rw [hq]; simp [h3])] at hR
     by_cases h2 : u2 = nd
     · have g2 : (u2 != nd) = false:=by simp [h2]
       rw [if_neg (by rw [hq]; simp [h2])] at hR
       cases h5 : okM u5 with
       | false =>
         rw [if_pos (by rw [hq]; exact h5)] at hR
         subst hR
         rw [h5] at cm
         repeat' (first | intro (hb : _ = _) | refine ZV ?_ | refine ZB tm gra_specs3_ok ?_ | refine ZH ?_ ?_ | refine ZJ (by conv=>lhs; simp [cv,g3,g2,cm]) ?_ | refine ZA ?_ ?_)
         refine Ye (rT_nrm0 10)
       | true =>
         rw [if_neg (by rw [hq]; simp [h5])] at hR
         rw [h5] at cm
         by_cases hz : zO? mo = false ∧ oid mo ≠ u4
         · rw [if_pos (by rw [hq]; exact hz)] at hR
           subst hR
           rw [show (oid mo == u4 || zO? mo) = false by simp [hz.1,hz.2]] at cz
           repeat' (first | intro (hb : _ = _) | refine ZV ?_ | refine ZB tm gra_specs3_ok ?_ | refine ZH ?_ ?_ | refine ZJ (by conv=>lhs; simp [cv,g3,g2,cm,cz]) ?_ | refine ZA ?_ ?_)
           refine Ye (rT_nrm0 10)
         · rw [if_neg (by rw [hq]; exact hz)] at hR
           rw [show (oid mo == u4 || zO? mo) = true by
             simp only [Bool.or_eq_true,beq_iff_eq]
             cases hz2 : zO? mo with
             | true=>exact .inr rfl
             | false=>exact .inl (Decidable.not_not.1 fun e=>hz ⟨hz2,e⟩)] at cz
           by_cases h0 : ((fnd u4 l).getD (tok0 u4)).want = 0
           · rw [if_pos (by rw [hq]; exact h0)] at hR
             subst hR
             generalize (fnd u4 l).getD (tok0 u4) = t at *
             obtain ⟨a1,a2,o,a3,a4,a5⟩:=t
             dsimp only at h0
             subst h0
             simp only [Tok.c] at cf
             repeat' (first | intro (hb : _ = _) | refine ZV ?_ | refine ZB tm gra_specs3_ok ?_ | refine ZH ?_ ?_ | refine ZJ (by conv=>lhs; simp [cv,g3,g2,cm,cz,cf]) ?_ | refine ZA ?_ ?_)
             refine Ye (rT_nrm0 8)
           · rw [if_neg (by rw [hq]; exact h0)] at hR
             obtain ⟨t,hf⟩ : ∃ t,fnd u4 l = some t:=by
               cases hf : fnd u4 l with
               | none=>rw [hf] at h0; simp [tok0] at h0
               | some t=>exact ⟨t,rfl⟩
             have cw:=cw t hs hf
             have hR2 : R = (nd,put (grtT t q) l,0):=by rw [← hR,hq]; simp only [hf,Option.getD_some]
             clear hR
             rw [hf,Option.getD_some] at cf h0
             obtain ⟨a1,a2,o,a3,a4,a5⟩:=t
             have g0 : (a3 == 0) = false:=by simpa using h0
             generalize put (grtT ⟨a1,a2,o,a3,a4,a5⟩ q) l = L at *
             subst hR2
             rw [hq] at cw
             simp only [mgB,Msg.v] at cw
             simp only [Tok.c] at cf
             clear hq h0 hf hs
             repeat' (first | intro (hb : _ = _) | refine ZV ?_ | refine ZB tm gra_specs3_ok ?_ | refine ZH ?_ ?_ | refine ZJ (by conv=>lhs; simp [cv,g3,g2,cm,cz,cf,g0,cw]) ?_ | refine ZA ?_ ?_)
             refine Ye ?_
             exact rT_nrm nd L 0
     · have g2 : (u2 != nd) = true:=by simp [h2]
       rw [if_pos (by rw [hq]; exact h2)] at hR
       subst hR
       repeat' (first | intro (hb : _ = _) | refine ZV ?_ | refine ZB tm gra_specs3_ok ?_ | refine ZH ?_ ?_ | refine ZJ (by conv=>lhs; simp [cv,g3,g2]) ?_ | refine ZA ?_ ?_)
       refine Ye (rT_nrm0 10)
   · have g3 : (u3 != 2) = true:=by simp [h3]
     rw [if_pos (by rw [hq]; exact h3)] at hR
     subst hR
     repeat' (first | intro (hb : _ = _) | refine ZV ?_ | refine ZB tm gra_specs3_ok ?_ | refine ZH ?_ ?_ | refine ZJ (by conv=>lhs; simp [cv,g3]) ?_ | refine ZA ?_ ?_)
     refine Ye (rT_nrm0 10)
end
section
attribute [local simp] instA slice3A slice3C
attribute [-simp] mkv
attribute [local simp] mkv_hd hdA_cons hdA_ob hdA_ob'
theorem wntp_ok : FnC Try.prog 7 wntS := by
 have sp1 : ∀ p ∈ ([(18,⟨1,vaS⟩),(25,⟨1,boS okM⟩),(26,⟨1,boS okN⟩),(27,⟨1,fndS⟩),(28,⟨3,cp2S⟩),(22,⟨3,wwaS⟩)] : NL Spec),FnC Try.prog p.1 p.2.fn:=by
   simp only [List.mem_cons,List.not_mem_nil,or_false]
   rintro p (rfl | rfl | rfl | rfl | rfl | rfl)
   · exact vap_ok
   · exact mo1_ok
   · exact no1_ok
   · exact fd_ok
   · exact cp2_ok
   · exact wwa_ok
 have sp2 : ∀ p ∈ ([(18,⟨1,vaS⟩),(25,⟨1,boS okM⟩),(26,⟨1,boS okN⟩),(27,⟨1,fndS⟩),(28,⟨3,cp2S⟩),(22,⟨3,wwnS⟩)] : NL Spec),FnC Try.prog p.1 p.2.fn:=by
   simp only [List.mem_cons,List.not_mem_nil,or_false]
   rintro p (rfl | rfl | rfl | rfl | rfl | rfl)
   · exact vap_ok
   · exact mo1_ok
   · exact no1_ok
   · exact fd_ok
   · exact cp2_ok
   · exact wwn_ok
 refine FnC.walkN 7 (fn:=Try.f7) [30,61,38] Try.func7 rfl (by kernel_rfl) (fun d=>?_) (fun d=>⟨_,rU_nrm _ _ _ _⟩)
 obtain ⟨⟨nd,l,hl⟩,id,m,home⟩:=d
 have cv:=vaS_eq ⟨nd,l,hl⟩
 have cm:=boS_eq okM m
 have cn:=boS_eq okN home
 have cf:=fndS_eq ⟨nd,l,hl⟩ id
 have cc:=cp2_eq nd l hl
 simp only [Tks.v] at cv cf
 simp only [tkB0] at cc
 have tl : List.take l.length (l.map Tok.c) = l.map Tok.c:=List.take_of_length_le (by simp)
 change W _ (RetNf _ _ _ (rU (wnt ⟨nd,l,hl⟩ id m home).1 (wnt ⟨nd,l,hl⟩ id m home).2.1 (wnt ⟨nd,l,hl⟩ id m home).2.2.1 (wnt ⟨nd,l,hl⟩ id m home).2.2.2) []) _ _ ⟨58,[(0, .agg [.int .i64 nd, .list 41 (l.map Tok.c)]),(1, .int .u64 id),(2, .int .i64 m),(3, .int .i64 home)],[]⟩
 generalize hR : wnt ⟨nd,l,hl⟩ id m home = R
 unfold wnt at hR
 dsimp only at hR
 cases hv : valid nd l with
 | false =>
   rw [if_pos hv] at hR
   subst hR
   rw [hv] at cv
   repeat' (first | intro (hb : _ = _) | refine ZV ?_ | refine ZB tm sp1 ?_ | refine ZH ?_ ?_ | refine ZJ (by conv=>lhs; simp [cv]) ?_ | refine ZA ?_ ?_)
   refine Ye (rU_nrm0 1)
 | true =>
   rw [if_neg (by simp [hv])] at hR
   rw [hv] at cv
   have hs:=valid_srt hv
   by_cases h0 : id = 0
   · have g0 : (id == 0) = true:=by simp [h0]
     rw [if_pos h0] at hR
     subst hR
     clear h0
     repeat' (first | intro (hb : _ = _) | refine ZV ?_ | refine ZB tm sp1 ?_ | refine ZH ?_ ?_ | refine ZJ (by conv=>lhs; simp [cv,g0]) ?_ | refine ZA ?_ ?_)
     refine Ye (rU_nrm0 2)
   · have g0 : (id == 0) = false:=by simp [h0]
     rw [if_neg h0] at hR
     cases hm : okM m with
     | false =>
       rw [if_pos hm] at hR
       subst hR
       rw [hm] at cm
       repeat' (first | intro (hb : _ = _) | refine ZV ?_ | refine ZB tm sp1 ?_ | refine ZH ?_ ?_ | refine ZJ (by conv=>lhs; simp [cv,g0,cm]) ?_ | refine ZA ?_ ?_)
       refine Ye (rU_nrm0 2)
     | true =>
       rw [if_neg (by simp [hm])] at hR
       rw [hm] at cm
       cases hn : okN home with
       | false =>
         rw [if_pos hn] at hR
         subst hR
         rw [hn] at cn
         repeat' (first | intro (hb : _ = _) | refine ZV ?_ | refine ZB tm sp1 ?_ | refine ZH ?_ ?_ | refine ZJ (by conv=>lhs; simp [cv,g0,cm,cn]) ?_ | refine ZA ?_ ?_)
         refine Ye (rU_nrm0 2)
       | true =>
         rw [if_neg (by simp [hn])] at hR
         rw [hn] at cn
         have hq0 : m ≠ 0:=by rintro rfl; simp [okM] at hm
         by_cases h1 : m ≤ ((fnd id l).getD (tok0 id)).mode
         · rw [if_pos h1] at hR
           subst hR
           generalize (fnd id l).getD (tok0 id) = t at *
           obtain ⟨a1,a2,o,a3,a4,a5⟩:=t
           dsimp only at h1
           simp only [Tok.c] at cf
           clear hm hn hv hs
           repeat' (first | intro (hb : _ = _) | refine ZV ?_ | refine ZB tm sp1 ?_ | refine ZH ?_ ?_ | refine ZJ (by conv=>lhs; simp [cv,g0,cm,cn,cf,h1,cc]) ?_ | refine ZA ?_ ?_)
           refine RetNf.dataE rfl (by conv=>lhs; simp) (by conv=>lhs; simp [tl]) (by first | rfl | simp [inlT,inlV]) ?_
           exact rU_nrmN nd l 0
         · rw [if_neg h1] at hR
           by_cases h2 : ((fnd id l).getD (tok0 id)).want ≠ 0
           · rw [if_pos h2] at hR
             subst hR
             generalize (fnd id l).getD (tok0 id) = t at *
             obtain ⟨a1,a2,o,a3,a4,a5⟩:=t
             dsimp only at h1 h2
             have g2 : (a3 != 0) = true:=by simpa using h2
             simp only [Tok.c] at cf
             clear hm hn hv hs h2
             repeat' (first | intro (hb : _ = _) | refine ZV ?_ | refine ZB tm sp1 ?_ | refine ZH ?_ ?_ | refine ZJ (by conv=>lhs; simp [cv,g0,cm,cn,cf,h1,g2,cc]) ?_ | refine ZA ?_ ?_)
             refine RetNf.dataE rfl (by conv=>lhs; simp) (by conv=>lhs; simp [tl]) (by first | rfl | simp [inlT,inlV]) ?_
             exact rU_nrmN nd l 0
           · rw [if_neg h2] at hR
             cases hf : fnd id l with
             | some t =>
               have cw:=wwa_eq nd l hl id t m hs hf
               rw [hf,Option.getD_some] at cf h1 h2 hR
               generalize put { t with want:=m } l = L at *
               subst hR
               obtain ⟨a1,a2,o,a3,a4,a5⟩:=t
               dsimp only at h1 h2
               have g2 : (a3 != 0) = false:=by simpa using h2
               simp only [Tok.c] at cf
               simp only [ibB] at cw
               clear hm hn hv hs h2 hf
               repeat' (first | intro (hb : _ = _) | refine ZV ?_ | refine ZB tm sp1 ?_ | refine ZH ?_ ?_ | refine ZJ (by conv=>lhs; simp [cv,g0,cm,cn,cf,h1,g2,cw,m1]) ?_ | refine ZA ?_ ?_)
               refine Ye ?_
               exact rU_nrm1 nd L nd home 1 id m 0
             | none =>
               have cw:=wwn_eq nd l hl id m hs hf hq0
               rw [hf,Option.getD_none] at cf h1 h2 hR
               have hR2 : (nd,put ⟨id,0,zOb,m,false,false⟩ l,[(⟨nd,home,1,id,m,zOb,0,0,0,0⟩ : Msg)],(0 : Int)) = R:=hR
               clear hR
               generalize put ⟨id,0,zOb,m,false,false⟩ l = L at *
               subst hR2
               simp only [tok0,Tok.c] at cf
               simp only [tok0] at h1
               simp only [ibB] at cw
               clear hm hn hv hs h2 hf
               repeat' (first | intro (hb : _ = _) | refine ZV ?_ | refine ZB tm sp2 ?_ | refine ZH ?_ ?_ | refine ZJ (by conv=>lhs; simp [cv,g0,cm,cn,cf,h1,cw,m1]) ?_ | refine ZA ?_ ?_)
               refine Ye ?_
               exact rU_nrm1 nd L nd home 1 id m 0
end
section
attribute [local simp] instA slice3A slice3C
attribute [-simp] mkv
attribute [local simp] mkv_hd hdA_cons hdA_ob hdA_ob'
noncomputable def rev_specs5 : NL Spec := [(18,⟨1,vaS⟩),(27,⟨1,fndS⟩),(28,⟨3,cp2S⟩),(22,⟨1,wrkS⟩),(40,⟨1,gvpS⟩)]
theorem rev_specs5_ok : ∀ p ∈ rev_specs5,FnC Try.prog p.1 p.2.fn := by
 simp only [rev_specs5,List.mem_cons,List.not_mem_nil,or_false]
 rintro p (rfl | rfl | rfl | rfl | rfl)
 · exact vap_ok
 · exact fd_ok
 · exact cp2_ok
 · exact wrk_ok
 · exact gvp_ok
attribute [local simp] rev_specs5
theorem rvkp_ok : FnC Try.prog 16 rvkS := by
 refine FnC.walkN 16 (fn:=Try.f16) [30,61,38] Try.func16 rfl (by kernel_rfl) (fun d=>?_) (fun d=>⟨_,rU_nrm _ _ _ _⟩)
 obtain ⟨⟨nd,l,hl⟩,⟨b1,b2,b3,b4,b5,q,b6,b7,b8,b9⟩⟩:=d
 have cv:=vaS_eq ⟨nd,l,hl⟩
 have cf:=fndS_eq ⟨nd,l,hl⟩ b4
 have cc:=cp2_eq nd l hl
 simp only [Tks.v] at cv cf
 simp only [tkB0] at cc
 have tl : List.take l.length (l.map Tok.c) = l.map Tok.c:=List.take_of_length_le (by simp)
 change W _ (RetNf _ _ _ (rU (rvk ⟨nd,l,hl⟩ ⟨b1,b2,b3,b4,b5,q,b6,b7,b8,b9⟩).1 (rvk ⟨nd,l,hl⟩ ⟨b1,b2,b3,b4,b5,q,b6,b7,b8,b9⟩).2.1 (rvk ⟨nd,l,hl⟩ ⟨b1,b2,b3,b4,b5,q,b6,b7,b8,b9⟩).2.2.1 (rvk ⟨nd,l,hl⟩ ⟨b1,b2,b3,b4,b5,q,b6,b7,b8,b9⟩).2.2.2) []) _ _ ⟨56,[(0, .agg [.int .i64 nd, .list 41 (l.map Tok.c)]),(1, .agg (.int .i64 b1 :: .int .i64 b2 :: .int .i64 b3 :: .int .u64 b4 :: .int .i64 b5 :: (q.cells ++ [.int .u64 b6, .int .i64 b7, .int .u64 b8, .int .i64 b9])))],[]⟩
 generalize hR : rvk ⟨nd,l,hl⟩ ⟨b1,b2,b3,b4,b5,q,b6,b7,b8,b9⟩ = R
 unfold rvk at hR
 dsimp only at hR
 cases hv : valid nd l with
 | false =>
   rw [if_pos hv] at hR
   subst hR
   rw [hv] at cv
   repeat' (first | intro (hb : _ = _) | refine ZV ?_ | refine ZB tm rev_specs5_ok ?_ | refine ZH ?_ ?_ | refine ZJ (by conv=>lhs; simp [cv]) ?_ | refine ZA ?_ ?_)
   refine Ye (rU_nrm0 1)
 | true =>
   rw [if_neg (by simp [hv])] at hR
   rw [hv] at cv
   have hs:=valid_srt hv
   by_cases h3 : b3 = 3
   · have g3 : (b3 != 3) = false:=by simp [h3]
     rw [if_neg (by simp [h3])] at hR
     by_cases h2 : b2 = nd
     · have g2 : (b2 != nd) = false:=by simp [h2]
       rw [if_neg (by simp [h2])] at hR
       by_cases h5 : ((fnd b4 l).getD (tok0 b4)).mode = 0
       · have g5 : (((fnd b4 l).getD (tok0 b4)).mode == 0) = true:=by simp [h5]
         rw [if_pos h5] at hR
         subst hR
         clear h5
         generalize (fnd b4 l).getD (tok0 b4) = t at *
         obtain ⟨a1,a2,o,a3,a4,a5⟩:=t
         dsimp only at g5
         simp only [Tok.c] at cf
         clear hv hs h2
         repeat' (first | intro (hb : _ = _) | refine ZV ?_ | refine ZB tm rev_specs5_ok ?_ | refine ZH ?_ ?_ | refine ZJ (by conv=>lhs; simp [cv,g3,g2,g5,cf,cc]) ?_ | refine ZA ?_ ?_)
         refine RetNf.dataE rfl (by conv=>lhs; simp) (by conv=>lhs; simp [tl]) (by first | rfl | simp [inlT,inlV]) ?_
         exact rU_nrmN nd l 0
       · rw [if_neg h5] at hR
         cases hf : fnd b4 l with
         | none=>rw [hf] at h5; exact absurd rfl h5
         | some t =>
           have cw:=wrk_eq nd l hl b4 t hs hf
           have cg:=gvp_eq nd l hl b4 b1 t hs hf
           rw [hf,Option.getD_some] at cf h5 hR
           have g5 : (t.mode == 0) = false:=by simp [h5]
           generalize put { t with due:=true } l = L at *
           generalize hL2 : put (bckT t) l = L2 at *
           generalize bckM nd t b1 = N at *
           obtain ⟨a1,a2,o,a3,a4,a5⟩:=t
           dsimp only at g5 hR
           simp only [Tok.c] at cf
           clear hv hs h2 hf h5
           have tl2 : List.take L2.length (L2.map Tok.c) = L2.map Tok.c:=List.take_of_length_le (by simp)
           cases a4 with
           | true =>
             rw [if_pos rfl] at hR
             subst hR
             repeat' (first | intro (hb : _ = _) | refine ZV ?_ | refine ZB tm rev_specs5_ok ?_ | refine ZH ?_ ?_ | refine ZJ (by conv=>lhs; simp [cv,g3,g2,g5,cf,cw]) ?_ | refine ZA ?_ ?_)
             refine Ye ?_
             exact rU_nrmN nd L 0
           | false =>
             rw [if_neg (by decide)] at hR
             subst hR
             obtain ⟨c1,c2,c3,c4,c5,p,c6,c7,c8,c9⟩:=N
             simp only [tkB0,Msg.v] at cg
             repeat' (first | intro (hb : _ = _) | refine ZV ?_ | refine ZB tm rev_specs5_ok ?_ | refine ZH ?_ ?_ | refine ZJ (by conv=>lhs; simp [cv,g3,g2,g5,cf,cg,m1]) ?_ | refine ZA ?_ ?_)
             refine RetNf.dataE rfl (by conv=>lhs; simp) (by conv=>lhs; simp [tl2]) (by first | rfl | simp [inlT,inlV]) ?_
             exact rU_nrm nd L2 [⟨c1,c2,c3,c4,c5,p,c6,c7,c8,c9⟩] 0
     · have g2 : (b2 != nd) = true:=by simp [h2]
       rw [if_pos h2] at hR
       subst hR
       repeat' (first | intro (hb : _ = _) | refine ZV ?_ | refine ZB tm rev_specs5_ok ?_ | refine ZH ?_ ?_ | refine ZJ (by conv=>lhs; simp [cv,g3,g2]) ?_ | refine ZA ?_ ?_)
       refine Ye (rU_nrm0 10)
   · have g3 : (b3 != 3) = true:=by simp [h3]
     rw [if_pos h3] at hR
     subst hR
     repeat' (first | intro (hb : _ = _) | refine ZV ?_ | refine ZB tm rev_specs5_ok ?_ | refine ZH ?_ ?_ | refine ZJ (by conv=>lhs; simp [cv,g3]) ?_ | refine ZA ?_ ?_)
     refine Ye (rU_nrm0 10)
end
section
attribute [local simp] instA
structure ixiV where
 F : FuncId
 p : Int → Bool
 S : SpecFn
 ok : FnC Try.prog F S
 eq : ∀ x,S [.int .i64 x] [] = some (.bool (p x),[])
structure ixiW where
 F : FuncId
 ne : (F = 70) = False
 ne2 : (70 = F) = False
 p : Int → Bool
 E : Nat
 s : Nat
 row : List AV
 refs : refsL row = []
 ren : ∀ f,renL f row = row
 S : SpecFn
 ok : FnC Try.prog F S
 eq : ∀ x,S [.int .i64 x, .ptr 0 0 0 0] [{ gen:=0,kind:=2,elem:=E,size:=s,inl:=false,rows:=[row] }] = some (.bool (p x),[{ gen:=0,kind:=2,elem:=E,size:=s,inl:=false,rows:=[row] }])
def ixiW.b (v : ixiW) : ABlk := { gen := 0,kind := 2,elem := v.E,size := v.s,inl := false,rows := [v.row] }
end
section
attribute [local simp] instA
def fil (p : Int → Bool) (l : List Int) : List Int := l.filter fun x => !p x
end
section
abbrev En := Dir.Ent Ob
def askC (p : Int × Int) : List AV := [.int .i64 p.1, .int .i64 p.2]
@[simp] def enC (e : En) : List AV := .int .u64 e.id :: .int .i64 e.owner :: .list 1 (e.readers.map iC) :: (e.obj.cells ++ [.list 1 (e.waiting.map iC), .list 2 (e.queue.map askC)])
theorem iC_inj {l m : List Int} (h : l.map iC = m.map iC) : l = m := map_inj' (fun a b h => by simpa [iC] using h) h
theorem askC_inj {l m : List (Int × Int)} (h : l.map askC = m.map askC) : l = m := map_inj' (fun a b h => by
 obtain ⟨a,b⟩:=a
 simpa [askC,Prod.ext_iff] using h) h
theorem enC_inj {s t : En} (h : enC s = enC t) : s = t := by
 obtain ⟨a,b,r,o,w,q⟩:=s
 obtain ⟨a',b',r',o',w',q'⟩:=t
 simp only [enC,List.cons.injEq,AV.int.injEq,AV.list.injEq,true_and] at h
 obtain ⟨rfl,rfl,h0,h⟩:=h
 obtain ⟨h1,h2⟩:=List.append_inj h (by simp)
 simp only [List.cons.injEq,AV.list.injEq,true_and,and_true] at h2
 cases iC_inj h0
 cases iC_inj h2.1
 cases askC_inj h2.2
 rw [Td.ext h1]
theorem enCs_inj {l m : List En} (h : l.map enC = m.map enC) : l = m := map_inj' (fun a b h => enC_inj h) h
def okE (e : En) : Prop := e.readers.length ≤ 9000 ∧ e.waiting.length ≤ 9000 ∧ e.queue.length ≤ 8000
structure Drs where
 node : Int
 ents : List En
 bd : ents.length ≤ 9000
 bde : ∀ e ∈ ents,okE e
def Drs.v (d : Drs) : AV := .agg [.int .i64 d.node, .list 41 (d.ents.map enC)]
theorem Drs.v_inj {s t : Drs} (h : s.v = t.v) : s = t := by
 obtain ⟨a,l,b,c⟩:=s
 obtain ⟨a',l',b',c'⟩:=t
 simp only [Drs.v,AV.agg.injEq,List.cons.injEq,AV.int.injEq,AV.list.injEq,true_and,and_true] at h
 obtain ⟨rfl,h⟩:=h
 cases enCs_inj h
 rfl
noncomputable def enS (f : En → Bool) : SpecFn := mkS (fun d : {e : En // okE e} => [.agg (enC d.1)]) fun d => (.bool (f d.1),[])
theorem enS_eq (f : En → Bool) (e : En) (h : okE e) : enS f [.agg (enC e)] [] = some (.bool (f e),[]) :=
 mkS_eq (enc:=fun d : {e : En // okE e}=>[AV.agg (enC d.1)]) (res:=fun d=>(.bool (f d.1),[])) (fun x y h=>by
   simp only [List.cons.injEq,AV.agg.injEq,and_true] at h
   rw [enC_inj h]) ⟨e,h⟩
attribute [local simp] instA
attribute [-simp] mkv
attribute [local simp] mkv_hd hdA_cons hdA_ob hdA_ob'
noncomputable def abs_specs : NL Spec := [(61,⟨1,zeS⟩)]
attribute [local simp] abs_specs
def goodN (l : List Int) (j : Nat) : Bool := match l[j]? with
 | none=>true
 | some t=>okN t && match j with
   | 0=>true
   | i + 1=>match l[i]? with
     | some s=>decide (s < t)
     | none=>true
def ascN (l : List Int) : Bool := (List.range l.length).all (goodN l)
theorem ascN_no {l : List Int} {k : Nat} (h : k < l.length) (hg : goodN l k = false) : ascN l = false := by
 unfold ascN
 rw [List.all_eq_false]
 exact ⟨k,List.mem_range.2 h,by simp [hg]⟩
theorem ascN_yes {l : List Int} (h : ∀ k,k < l.length → goodN l k = true) : ascN l = true := by
 unfold ascN
 rw [List.all_eq_true]
 exact fun k hk=>h k (List.mem_range.1 hk)
noncomputable def ilS (f : List Int → Bool) : SpecFn := mkS (fun d : {l : List Int // l.length ≤ 9000} => [.list 1 (d.1.map iC)]) fun d => (.bool (f d.1),[])
theorem ilS_eq (f : List Int → Bool) (l : List Int) (h : l.length ≤ 9000) : ilS f [.list 1 (l.map iC)] [] = some (.bool (f l),[]) :=
 mkS_eq (enc:=fun d : {l : List Int // l.length ≤ 9000}=>[AV.list 1 (d.1.map iC)]) (res:=fun d=>(.bool (f d.1),[])) (fun x y h=>by
   simp only [List.cons.injEq,AV.list.injEq,true_and,and_true] at h
   rw [iC_inj h]) ⟨l,h⟩
theorem ascN_iff {l : List Int} : ascN l = true ↔ (∀ x ∈ l,okN x = true) ∧ Dir.Asc l := by
 constructor
 · intro h
   have hg : ∀ k,k < l.length → goodN l k = true:=fun k hk=>by
     unfold ascN at h
     rw [List.all_eq_true] at h
     exact h k (List.mem_range.2 hk)
   have h1 : ∀ k (hk : k < l.length),okN l[k] = true:=fun k hk=>by
     have:=hg k hk
     unfold goodN at this
     rw [List.getElem?_eq_getElem hk] at this
     simp only [Bool.and_eq_true] at this
     exact this.1
   have h2 : ∀ k (hk : k + 1 < l.length),l[k] < l[k + 1]:=fun k hk=>by
     have:=hg (k + 1) hk
     unfold goodN at this
     rw [List.getElem?_eq_getElem hk] at this
     simp only [List.getElem?_eq_getElem (show k < l.length by omega),Bool.and_eq_true,decide_eq_true_eq] at this
     exact this.2
   refine ⟨fun x hx=>?_, ?_⟩
   · obtain ⟨k,hk,rfl⟩:=List.mem_iff_getElem.1 hx
     exact h1 k hk
   · rw [Dir.Asc,List.pairwise_iff_getElem]
     intro i j hi hj hij
     induction j with
     | zero=>omega
     | succ j ih =>
       by_cases e : i = j
       · subst e; exact h2 i hj
       · have:=ih (by omega) (by omega)
         have:=h2 j hj
         omega
 · rintro ⟨h1,h2⟩
   refine ascN_yes fun k hk=>?_
   unfold goodN
   rw [List.getElem?_eq_getElem hk]
   simp only [h1 _ (List.getElem_mem hk),Bool.true_and]
   cases k with
   | zero=>rfl
   | succ i =>
     simp only [List.getElem?_eq_getElem (show i < l.length by omega),decide_eq_true_eq]
     exact List.pairwise_iff_getElem.1 h2 i (i + 1) (by omega) hk (by omega)
end
section
attribute [local simp] instA
end
section
attribute [local simp] instA
attribute [-simp] mkv
attribute [local simp] mkv_hd hdA_cons hdA_ob hdA_ob'
def strg (e : En) (n : Int) : Bool := n != e.owner && !decide (n ∈ e.readers)
def oddA (p : Int × Int) : Bool := !okN p.1 || !okM p.2
noncomputable def fineB (e : En) : Bool := e.id != 0 && (decide (-1 ≤ e.owner) && (decide (e.owner ≤ 127) && (ascN e.readers && (ascN e.waiting && ((e.owner == -1 || ((e.readers.length : Int) == 0 && zO? e.obj)) && ((oid e.obj == e.id || zO? e.obj) && (!e.waiting.any (strg e) && (!e.queue.any oddA && (decide ((0 : Int) < e.waiting.length) || (e.queue.length : Int) == 0)))))))))
end
section
attribute [local simp] instA slice3A slice3C
attribute [-simp] mkv
attribute [local simp] mkv_hd hdA_cons hdA_ob hdA_ob'
noncomputable def goodD (l : List En) (j : Nat) : Bool := match l[j]? with
 | none=>true
 | some t=>fineB t && match j with
   | 0=>true
   | i + 1=>match l[i]? with
     | some s=>decide (s.id < t.id)
     | none=>true
noncomputable def validD (nd : Int) (l : List En) : Bool := (List.range l.length).all (goodD l) && okN nd
theorem validD_no {nd : Int} {l : List En} {k : Nat} (h : k < l.length) (hg : goodD l k = false) : validD nd l = false := by
 unfold validD
 have : (List.range l.length).all (goodD l) = false:=by
   rw [List.all_eq_false]
   exact ⟨k,List.mem_range.2 h,by simp [hg]⟩
 rw [this,Bool.false_and]
theorem validD_yes {nd : Int} {l : List En} (h : ∀ k,k < l.length → goodD l k = true) : validD nd l = okN nd := by
 unfold validD
 have : (List.range l.length).all (goodD l) = true:=by
   rw [List.all_eq_true]
   exact fun k hk=>h k (List.mem_range.1 hk)
 rw [this,Bool.true_and]
noncomputable def vdS : SpecFn := mkS (fun d : Drs => [d.v]) fun d => (.bool (validD d.node d.ents),[])
theorem vdS_eq (d : Drs) : vdS [d.v] [] = some (.bool (validD d.node d.ents),[]) :=
 mkS_eq (enc:=fun d : Drs=>[d.v]) (fun x y h=>by
   simp only [List.cons.injEq,and_true] at h
   cases Drs.v_inj h
   rfl) d
end
section
attribute [local simp] instA
attribute [-simp] mkv
attribute [local simp] mkv_hd hdA_cons hdA_ob hdA_ob'
noncomputable def ow0 (id : Int) : Int := if okN (sp0 id) then sp0 id else -1
noncomputable def ent0 (id : Int) : En := ⟨id,ow0 id,[],zOb,[],[]⟩
noncomputable def fndD (id : Int) (l : List En) : En := (l.find? fun e => e.id == id).getD (ent0 id)
theorem enLeafs : leafs Try.prog 128 = 41 :: 3 :: 78 :: (leafs Try.prog 60 ++ [78,126]) := by rw [lf128,lf60]; rfl
end
section
attribute [local simp] instA
attribute [-simp] mkv
attribute [local simp] mkv_hd hdA_cons hdA_ob hdA_ob'
@[simp] def sesC (e : En) (nd : Int) (M : AV) : List AV := .int .u64 e.id :: .int .i64 e.owner :: .list 1 (e.readers.map iC) :: (e.obj.cells ++ [.list 1 (e.waiting.map iC), .list 2 (e.queue.map askC), .int .i64 nd,M])
def msgB (g : Nat) (ms : List Msg) : ABlk := { gen := g,kind := 2,elem := 75,size := 45,inl := true,rows := ms.map Msg.v }
def graM (nd id n m : Int) (o : Ob) : Msg := ⟨nd,n,2,id,m,o,0,0,0,0⟩
noncomputable def revM (nd id n : Int) : Msg := ⟨nd,n,3,id,0,zOb,0,0,0,0⟩
structure Gr where
 e : En
 nd : Int
 ms : List Msg
 n : Int
 m : Int
 q : List (Int × Int)
 hq : e.queue = (n,m) :: q
 hl : e.queue.length ≤ 9000
 hm : ms.length ≤ 90000
noncomputable def gra_specs : NL Spec := [(24,⟨1,cobS⟩)]
attribute [local simp] gra_specs
structure De where
 e : En
 nd : Int
 ms : List Msg
 ns : List Int
 h0 : 0 < ns.length
 hl : ns.length ≤ 9100
 hm : ms.length ≤ 90000
theorem msg_nrms (l : List Msg) : (l.map Msg.v).map (nrmL Try.prog (leafs Try.prog 75)) = l.map Msg.v := by
 rw [List.map_map]
 exact List.map_congr_left fun x _=>msg_nrm x
end
section
attribute [local simp] instA
attribute [-simp] mkv
attribute [local simp] mkv_hd hdA_cons hdA_ob hdA_ob'
def srt (l : List Int) : List Int := l.mergeSort fun x y => decide (x ≤ y)
noncomputable def mgM (nd id : Int) : Dir.Mg Ob → Msg
 | .rev to=>revM nd id to
 | .grant to m o=>graM nd id to m o
structure Go where
 e : En
 nd : Int
 h1 : e.readers.length + e.queue.length ≤ 9000
 h2 : e.waiting.length ≤ 9000
 h3 : Dir.Asc e.readers
noncomputable def goM (e : En) (nd : Int) : List Msg := (Dir.goOn zOb e).1.map (mgM nd e.id)
theorem lfI : leafs Try.prog 3 = [3] := by kernel_rfl
theorem iC_nrm (x : Int) : nrmL Try.prog (leafs Try.prog 3) (iC x) = iC x := by simp [iC,nrmL,nrmV,lfI]
theorem askC_nrm (x : Int × Int) : nrmL Try.prog (leafs Try.prog 132) (askC x) = askC x := by simp [askC,nrmL,nrmV]
theorem uI : Try.prog.underlying 78 = some (.slice 3) := by kernel_rfl
theorem uA : Try.prog.underlying 126 = some (.slice 132) := by kernel_rfl
theorem cI : Try.prog.cellsOf 3 = 1 := by kernel_rfl
theorem rc_list (l : List Int) : nrmV Try.prog 78 (.list 1 (l.map iC)) = .list 1 (l.map iC) := by simp only [nrmV,uI,nrmRows_map iC_nrm]
theorem rc_sl (a b c d : Nat) : nrmV Try.prog 78 (.sl a b c d) = .sl a b c d := by simp only [nrmV]
theorem go_wait {e : En} (h : e.waiting ≠ []) : Dir.goOn zOb e = ([],e) := by rw [Dir.goOn,if_neg h]
theorem go_nil {e : En} (h : e.queue = []) : Dir.goOn zOb e = ([],e) := by
 obtain ⟨id,ow,rd,o,wt,q⟩:=e
 dsimp only at h
 subst h
 by_cases hw : wt = []
 · subst hw; rfl
 · rw [go_wait hw]
theorem go_own {e : En} {a m : Int} {q : List (Int × Int)} (hw : e.waiting = []) (hq : e.queue = (a,m) :: q) (ho : e.owner ≠ -1) : Dir.goOn zOb e = ([.rev e.owner], { e with waiting := [e.owner] }) := by
 rw [Dir.goOn,if_pos hw,hq,Dir.goQ,if_pos ho, ← hq]
theorem go_read {e : En} {a : Int} {q : List (Int × Int)} (hw : e.waiting = []) (hq : e.queue = (a,1) :: q) (ho : e.owner = -1) : Dir.goOn zOb e = (.grant a 1 e.obj :: (Dir.goOn zOb { e with readers := Dir.ins a (Dir.oth e.readers a),queue := q }).1,(Dir.goOn zOb { e with readers := Dir.ins a (Dir.oth e.readers a),queue := q }).2) := by
 rw [Dir.goOn,if_pos hw,hq,Dir.goQ,if_neg (by simp [ho]),if_pos rfl]
 rw [Dir.goOn,if_pos hw]
theorem go_dem {e : En} {a m : Int} {q : List (Int × Int)} (hw : e.waiting = []) (hq : e.queue = (a,m) :: q) (ho : e.owner = -1) (hm : m ≠ 1) (hd : Dir.oth e.readers a ≠ []) : Dir.goOn zOb e = ((Dir.oth e.readers a).map .rev, { e with waiting := Dir.oth e.readers a }) := by
 rw [Dir.goOn,if_pos hw,hq,Dir.goQ,if_neg (by simp [ho]),if_neg hm,if_pos hd, ← hq]
theorem go_write {e : En} {a m : Int} {q : List (Int × Int)} (hw : e.waiting = []) (hq : e.queue = (a,m) :: q) (ho : e.owner = -1) (hm : m ≠ 1) (hd : Dir.oth e.readers a = []) : Dir.goOn zOb e = (.grant a m e.obj :: (Dir.goOn zOb { e with owner := a,readers := [],obj := zOb,queue := q }).1,(Dir.goOn zOb { e with owner := a,readers := [],obj := zOb,queue := q }).2) := by
 rw [Dir.goOn,if_pos hw,hq,Dir.goQ,if_neg (by simp [ho]),if_neg hm,if_neg (by simp [hd])]
 rw [Dir.goOn,if_pos hw]
end
section
attribute [local simp] instA slice3A slice3C
attribute [-simp] mkv
attribute [local simp] mkv_hd hdA_cons hdA_ob hdA_ob'
end
section
attribute [local simp] instA slice3A slice3C
attribute [-simp] mkv
attribute [local simp] mkv_hd hdA_cons hdA_ob hdA_ob'
def bsD (l : List En) (id : Int) : Nat := bsF (fun k => match l[k]? with | some t => decide (t.id < id) | none => false) 0 l.length
def hasD (l : List En) (k : Nat) (id : Int) : Bool := match l[k]? with | some t => decide (t.id = id) | none => false
def putD (e : En) (l : List En) : List En := if hasD l (bsD l e.id) e.id then l.set (bsD l e.id) e else l.take (bsD l e.id) ++ e :: l.drop (bsD l e.id)
theorem bsF_bd (c : Nat → Bool) : ∀ (d lo hi : Nat),hi - lo = d → lo ≤ hi → lo ≤ bsF c lo hi ∧ bsF c lo hi ≤ hi := by
 intro d
 induction d using Nat.strongRecOn with
 | ind d ih =>
   intro lo hi hd hl
   by_cases h : lo < hi
   · rw [bsF_lt h]
     split
     · have:=ih (hi - ((lo + hi) / 2 + 1)) (by omega) ((lo + hi) / 2 + 1) hi rfl (by omega)
       omega
     · have:=ih ((lo + hi) / 2 - lo) (by omega) lo ((lo + hi) / 2) rfl (by omega)
       omega
   · rw [bsF_ge h]
     omega
theorem bsD_le (l : List En) (id : Int) : bsD l id ≤ l.length := (bsF_bd _ _ 0 l.length rfl (by omega)).2
end
section
attribute [local simp] instA slice3A slice3C
attribute [-simp] mkv
attribute [local simp] mkv_hd hdA_cons hdA_ob hdA_ob'
def rD (n : Int) (l : List En) (ms : List Msg) (e : Int) : AV := .tup [.agg [.int .i64 n, .list 41 (l.map enC)], .list 45 (ms.map Msg.v), .int .i64 e]
theorem enC_nrm (e : En) : nrmL Try.prog (leafs Try.prog 128) (enC e) = enC e := by
 rw [enLeafs]
 simp only [enC,nrmL]
 rw [nrmL_append _ _ _ _ e.obj.len'.symm,e.obj.nrmL]
 simp only [nrmL,nrmV,uI,uA,nrmRows_map iC_nrm,nrmRows_map askC_nrm]
theorem uE : Try.prog.underlying 25 = some (.slice 128) := by kernel_rfl
theorem uM : Try.prog.underlying 61 = some (.slice 75) := by kernel_rfl
theorem cE : Try.prog.cellsOf 128 = 41 := by kernel_rfl
theorem cM : Try.prog.cellsOf 75 = 45 := by kernel_rfl
theorem drLeafs : leafs Try.prog 27 = [3,25] := lf27
theorem rD_nrm (n : Int) (l : List En) (ms : List Msg) (e : Int) : nrmR Try.prog [27,61,38] (rD n l ms e) = rD n l ms e := by
 simp only [rD,nrmR,nrmL,nrmV,drLeafs,uE,uM,nrmRows_map enC_nrm,nrmRows_map msg_nrm]
theorem rD_nrm0 (e : Int) : nrmR Try.prog [27,61,38] (.tup [.agg [.int .i64 0, .nils], .nils, .int .i64 e]) = rD 0 [] [] e := by
 simp only [rD,nrmR,nrmL,nrmV,drLeafs,uE,uM,cE,cM,List.map_nil]
theorem listR_app : ∀ {a : List AV} (_ : a.all AV.isInl = true) (l : List AV) (H : NL ABlk),listR frz0R (a ++ l) H = mapO (fun r => a ++ r) (listR frz0R l H)
 | [],_,l,H=>by
   show listR frz0R l H = _
   cases listR frz0R l H with
   | none=>rfl
   | some o=>rfl
 | x :: a,h,l,H=>by
   simp only [List.all_cons,Bool.and_eq_true] at h
   rw [List.cons_append,listR,frz0R_inl h.1,nxt_some,listR_app h.2,nxt_map, ← nxt_ret]
   rfl
@[local simp] theorem listR_ob (o : Ob) (l : List AV) (H : NL ABlk) : listR frz0R (o.cells ++ l) H = mapO (fun r => o.cells ++ r) (listR frz0R l H) := listR_app o.isInl l H
structure Fin where
 d : Drs
 e : En
 h1 : e.readers.length + e.queue.length ≤ 9000
 h2 : e.waiting.length ≤ 9000
 h3 : Dir.Asc e.readers
end
section
attribute [local simp] instA
attribute [-simp] mkv
attribute [local simp] mkv_hd hdA_cons hdA_ob hdA_ob'
theorem fineB_asc {e : En} (h : fineB e = true) : ascN e.readers = true ∧ ascN e.waiting = true := by
 unfold fineB at h
 simp only [Bool.and_eq_true] at h
 exact ⟨h.2.2.2.1,h.2.2.2.2.1⟩
theorem asc_len {l : List Int} (h : ascN l = true) : l.length ≤ 128 := by
 obtain ⟨h1,h2⟩:=ascN_iff.1 h
 have hn : l.Nodup:=h2.imp fun h=>by omega
 have:=Dir.nodup_len (S:=(List.range 128).map Int.ofNat) hn (fun x hx=>by
   have hx:=h1 x hx
   simp only [okN,Bool.and_eq_true,decide_eq_true_eq] at hx
   rw [List.mem_map]
   exact ⟨x.toNat,List.mem_range.2 (by omega),by simp; omega⟩)
 simpa using this
theorem validD_fine {nd : Int} {l : List En} (h : validD nd l = true) : ∀ e ∈ l,fineB e = true := fun e he => by
 obtain ⟨k,hk,rfl⟩:=List.mem_iff_getElem.1 he
 unfold validD at h
 rw [Bool.and_eq_true,List.all_eq_true] at h
 have:=h.1 k (List.mem_range.2 hk)
 unfold goodD at this
 rw [List.getElem?_eq_getElem hk] at this
 simp only [Bool.and_eq_true] at this
 exact this.1
theorem fndD_ok {nd : Int} {l : List En} (hl : ∀ e ∈ l,okE e) (h : validD nd l = true) (id : Int) : okE (fndD id l) ∧ Dir.Asc (fndD id l).readers ∧ (fndD id l).readers.length ≤ 128 ∧ (fndD id l).waiting.length ≤ 128 := by
 unfold fndD
 cases hf : l.find? (fun e=>e.id == id) with
 | none=>exact ⟨⟨Nat.zero_le _,Nat.zero_le _,Nat.zero_le _⟩,List.Pairwise.nil,Nat.zero_le _,Nat.zero_le _⟩
 | some e =>
   have hm:=List.mem_of_find?_eq_some hf
   obtain ⟨a1,a2⟩:=fineB_asc (validD_fine h e hm)
   exact ⟨hl e hm,(ascN_iff.1 a1).2,asc_len a1,asc_len a2⟩
noncomputable def askL (d : Drs) (id n m : Int) : Int × List En × List Msg × Int :=
 if validD d.node d.ents = false then (0,[],[],1) else if (id == 0 || (!okN n || !okM m)) = true then (0,[],[],2) else
   let e:=fndD id d.ents
   if (e.owner == n || ((m == 1 && decide (n ∈ e.readers)) || e.queue.any fun p=>p.1 == n)) = true then (0,[],[],8) else
     let e1 : En:={ e with queue:=e.queue ++ [(n,m)] }
     (d.node,putD (Dir.goOn zOb e1).2 d.ents,goM e1 d.node,0)
noncomputable def askS : SpecFn := mkS (fun d : Drs × Int × Int × Int => [d.1.v, .int .u64 d.2.1, .int .i64 d.2.2.1, .int .i64 d.2.2.2]) fun d => (rD (askL d.1 d.2.1 d.2.2.1 d.2.2.2).1 (askL d.1 d.2.1 d.2.2.1 d.2.2.2).2.1 (askL d.1 d.2.1 d.2.2.1 d.2.2.2).2.2.1 (askL d.1 d.2.1 d.2.2.1 d.2.2.2).2.2.2,[])
theorem askS_eq (d : Drs) (id n m : Int) : askS [d.v, .int .u64 id, .int .i64 n, .int .i64 m] [] = some (rD (askL d id n m).1 (askL d id n m).2.1 (askL d id n m).2.2.1 (askL d id n m).2.2.2,[]) :=
 mkS_eq (enc:=fun d : Drs × Int × Int × Int=>[d.1.v,AV.int .u64 d.2.1, .int .i64 d.2.2.1, .int .i64 d.2.2.2]) (res:=fun d=>(rD (askL d.1 d.2.1 d.2.2.1 d.2.2.2).1 (askL d.1 d.2.1 d.2.2.1 d.2.2.2).2.1 (askL d.1 d.2.1 d.2.2.1 d.2.2.2).2.2.1 (askL d.1 d.2.1 d.2.2.1 d.2.2.2).2.2.2,[])) (fun x y h=>by
   obtain ⟨a,b,c,e⟩:=x
   obtain ⟨a',b',c',e'⟩:=y
   simp only [List.cons.injEq,AV.int.injEq,true_and,and_true] at h
   obtain ⟨h,rfl,rfl,rfl⟩:=h
   cases Drs.v_inj h
   rfl) (d,id,n,m)
end
section
attribute [local simp] instA
attribute [-simp] mkv
attribute [local simp] mkv_hd hdA_cons hdA_ob hdA_ob'
noncomputable def retD (e : En) (n : Int) (o : Ob) : En := if e.owner = n then ⟨e.id, -1,e.readers,o,Dir.oth e.waiting n,e.queue⟩ else ⟨e.id,e.owner,Dir.oth e.readers n,e.obj,Dir.oth e.waiting n,e.queue⟩
noncomputable def retL (d : Drs) (id n : Int) (o : Ob) : Int × List En × List Msg × Int :=
 if validD d.node d.ents = false then (0,[],[],1) else
   let e:=fndD id d.ents
   if (id == 0 || (!okN n || (e.owner != n && !decide (n ∈ e.readers)))) = true then (0,[],[],8) else
     if (e.owner == n && !(oid o == id || zO? o)) = true then (0,[],[],10) else
       (d.node,putD (Dir.goOn zOb (retD e n o)).2 d.ents,goM (retD e n o) d.node,0)
noncomputable def retS : SpecFn := mkS (fun d : Drs × Int × Int × Ob => [d.1.v, .int .u64 d.2.1, .int .i64 d.2.2.1, .agg d.2.2.2.cells]) fun d => (rD (retL d.1 d.2.1 d.2.2.1 d.2.2.2).1 (retL d.1 d.2.1 d.2.2.1 d.2.2.2).2.1 (retL d.1 d.2.1 d.2.2.1 d.2.2.2).2.2.1 (retL d.1 d.2.1 d.2.2.1 d.2.2.2).2.2.2,[])
theorem retS_eq (d : Drs) (id n : Int) (o : Ob) : retS [d.v, .int .u64 id, .int .i64 n, .agg o.cells] [] = some (rD (retL d id n o).1 (retL d id n o).2.1 (retL d id n o).2.2.1 (retL d id n o).2.2.2,[]) :=
 mkS_eq (enc:=fun d : Drs × Int × Int × Ob=>[d.1.v,AV.int .u64 d.2.1, .int .i64 d.2.2.1, .agg d.2.2.2.cells]) (res:=fun d=>(rD (retL d.1 d.2.1 d.2.2.1 d.2.2.2).1 (retL d.1 d.2.1 d.2.2.1 d.2.2.2).2.1 (retL d.1 d.2.1 d.2.2.1 d.2.2.2).2.2.1 (retL d.1 d.2.1 d.2.2.1 d.2.2.2).2.2.2,[])) (fun x y h=>by
   obtain ⟨a,b,c,e⟩:=x
   obtain ⟨a',b',c',e'⟩:=y
   simp only [List.cons.injEq,AV.int.injEq,AV.agg.injEq,true_and,and_true] at h
   obtain ⟨h,rfl,rfl,h2⟩:=h
   cases Drs.v_inj h
   cases Td.ext h2
   rfl) (d,id,n,o)
end
section

end
section
attribute [local simp] instA
attribute [-simp] mkv
attribute [local simp] mkv_hd hdA_cons hdA_ob hdA_ob'
@[simp] def hdC (h : Dir.Hd) : List AV := [.int .i64 (h.mode 0), .int .i64 (h.mode 1), .int .i64 (h.mode 2), .int .i64 (h.mode 3), .bool (h.demand 0), .bool (h.demand 1), .bool (h.demand 2), .bool (h.demand 3), .int .i64 (h.asked 0), .int .i64 (h.asked 1), .int .i64 (h.asked 2), .int .i64 (h.asked 3)]
noncomputable def mgs (nd id : Int) (l : List (Dir.Mg Ob)) : List AV := [.list 45 ((l.map (mgM nd id)).map Msg.v)]
end
section
theorem drs_nrmV (n : Int) (l : List En) : nrmV Try.prog 27 (.agg [.int .i64 n, .list 41 (l.map enC)]) = .agg [.int .i64 n, .list 41 (l.map enC)] := by
 simp only [nrmV,drLeafs,nrmL,uE,nrmRows_map enC_nrm]
theorem zob_z : zO? zOb = true := by kernel_rfl
def Pz (id : Int) (o : Ob) : Prop := (oid o == id || zO? o) = true
theorem pz_zob (id : Int) : Pz id zOb := by simp [Pz,zob_z]
theorem asc_ofN4 {l : List Int} (h1 : ∀ n ∈ l,Dir.N4 n) (h2 : Dir.Asc l) : ascN l = true := ascN_iff.2 ⟨fun n hn => by
 have:=h1 n hn
 unfold Dir.N4 at this
 simp [okN]
 omega,h2⟩
theorem inv_wt {id : Int} {e : En} {h : Dir.Hd} (hi : Dir.Inv (Pz id) zOb e h) : (∀ n ∈ e.waiting,Dir.N4 n ∧ (n = e.owner ∨ n ∈ e.readers)) ∧ Dir.Asc e.waiting := by
 rcases hi.wt with ⟨w1,_⟩ | ⟨_,p,q,_,⟨w3,w4⟩ | ⟨w3,w4,w5⟩⟩
 · rw [w1]
   exact ⟨by simp,List.Pairwise.nil⟩
 · rw [w4]
   refine ⟨fun n hn=>?_,List.pairwise_singleton _ _⟩
   simp only [List.mem_singleton] at hn
   subst hn
   rcases hi.pre.owr with h | h
   · exact absurd h w3
   · exact ⟨h, .inl rfl⟩
 · rw [w5]
   refine ⟨fun n hn=>?_,Dir.asc_oth hi.pre.asc _⟩
   have:=(Dir.mem_oth.1 hn).1
   exact ⟨hi.pre.rdr n this, .inr this⟩
theorem inv_fine {id : Int} (h0 : id ≠ 0) {e : En} {h : Dir.Hd} (hi : Dir.Inv (Pz id) zOb e h) (hid : e.id = id) : fineB e = true := by
 obtain ⟨w1,w2⟩:=inv_wt hi
 have a1:=asc_ofN4 hi.pre.rdr hi.pre.asc
 have a2:=asc_ofN4 (fun n hn=>(w1 n hn).1) w2
 have b1 : decide (-1 ≤ e.owner) = true:=by
   rcases hi.pre.owr with h | h
   · simp [h]
   · unfold Dir.N4 at h; simp; omega
 have b2 : decide (e.owner ≤ 127) = true:=by
   rcases hi.pre.owr with h | h
   · simp [h]
   · unfold Dir.N4 at h; simp; omega
 have b3 : (e.owner == -1 || ((e.readers.length : Int) == 0 && zO? e.obj)) = true:=by
   by_cases ho : e.owner = -1
   · simp [ho]
   · rw [hi.pre.one ho,hi.pre.obz ho,zob_z]
     simp
 have b4 : (oid e.obj == e.id || zO? e.obj) = true:=by rw [hid]; exact hi.pre.obp
 have b5 : e.waiting.any (strg e) = false:=by
   rw [List.any_eq_false]
   intro n hn
   rcases (w1 n hn).2 with h | h
   · simp [strg,h]
   · simp [strg,h]
 have b6 : e.queue.any oddA = false:=by
   rw [List.any_eq_false]
   intro p hp
   obtain ⟨d1,_,d3,_⟩:=hi.pre.q1 p hp
   unfold Dir.N4 at d1
   have e1 : okN p.1 = true:=by simp [okN]; omega
   have e2 : okM p.2 = true:=by simpa [okM] using d3
   simp [oddA,e1,e2]
 have b7 : (decide ((0 : Int) < e.waiting.length) || (e.queue.length : Int) == 0) = true:=by
   rcases hi.wt with ⟨_,w⟩ | ⟨w,_⟩
   · simp [w]
   · have:=List.length_pos_iff.2 w
     simp; left; omega
 have b8 : (e.id != 0) = true:=by simpa [hid] using h0
 unfold fineB
 rw [a1,a2,b1,b2,b3,b4,b5,b6,b7,b8]
 rfl
theorem mode_of {id : Int} {e : En} {h : Dir.Hd} (hi : Dir.Inv (Pz id) zOb e h) {n : Int} (hn : Dir.N4 n) : (e.owner = n → h.mode n = 2) ∧ (n ∈ e.readers → h.mode n = 1) := ⟨fun h => (hi.pre.m2 n hn).2 h,fun h => (hi.pre.m1 n hn).2 h⟩
end
section
attribute [local simp] instA slice3A slice3C
theorem rnode_ok : FnC Try.prog 63 (boS okN) := by
 refine FnC.walk 63 (fn:=Try.f63) Try.func63 rfl (by kernel_rfl) fun m=>?_
 change W _ (Ret _ _ (.bool (okN m)) []) _ _ ⟨9,[(0, .int .i64 m)],[]⟩
 repeat' (first | intro (hb : _ = _) | refine ZV ?_ | refine ZB tm no_specs ?_ | refine ZH ?_ ?_ | refine ZJ (by conv=>lhs; simp) ?_ | refine ZA ?_ ?_)
 all_goals (first | refine Yd ?_ | refine Ye ?_)
 all_goals (first | rfl | (simp [okN]; done) | (simp_all [okN]; done) | (simp_all [okN]; omega))
noncomputable def rnodes_specs : NL Spec := [(63,⟨1,boS okN⟩)]
theorem rnodes_specs_ok : ∀ p ∈ rnodes_specs,FnC Try.prog p.1 p.2.fn := by
 simp only [rnodes_specs,List.mem_cons,List.not_mem_nil,or_false]
 rintro p rfl
 exact rnode_ok
attribute [local simp] rnodes_specs
theorem rnodes_ok : FnC Try.prog 89 (ilS ascN) := by
 refine FnC.walk 89 (fn:=Try.f89) Try.func89 rfl (by kernel_rfl) fun d=>?_
 obtain ⟨l,hl⟩:=d
 change W _ (Ret _ _ (.bool (ascN l)) []) _ _ ⟨29,[(0, .list 1 (l.map iC))],[]⟩
 have cap : l.length ≤ 9223372036854775807:=by omega
 repeat' (first | intro (hb : _ = _) | refine ZV ?_ | refine ZB tm rnodes_specs_ok ?_ | refine ZH ?_ ?_ | refine ZJ (by conv=>lhs; simp [cap]) ?_ | refine ZA ?_ ?_)
 refine W.loop rfl (ι:={ q : Nat × NL ABlk // q.1 ≤ l.length ∧ (∀ j,j < q.1 → goodN l j = true) })
   (fun q=>⟨29,[(0, .list 1 (l.map iC)),(5, .list 1 (l.map iC)),(6, .int .i64 l.length),(7, .int .i64 (q.1.1 : Nat))],q.1.2⟩) (fun q=>l.length - q.1.1)
   ⟨(0,_),by simp,fun j hj=>absurd hj (by simp)⟩ (AS.le_of rfl ⟨rfl,rfl,rfl,rfl,trivial⟩ (fun _=>rfl)) ?_
 rintro ⟨⟨k,h⟩,hk,hg⟩
 dsimp only at hk hg ⊢
 by_cases hk2 : k = l.length
 · subst hk2
   rw [ascN_yes hg]
   repeat' (first | intro (hb : _ = _) | refine ZV ?_ | refine ZB tm rnodes_specs_ok ?_ | refine ZH ?_ ?_ | refine ZJ (by conv=>lhs; simp) ?_ | refine ZA ?_ ?_)
   all_goals (first | refine Yd ?_ | refine Ye ?_)
   all_goals (first | rfl | (simp; done) | (simp_all; done) | (simp_all; omega))
 · have hlt : k < l.length:=by omega
   obtain ⟨t,hr⟩:=get_lt hlt
   have hm : (l.map iC)[k]? = some [.int .i64 t]:=by rw [List.getElem?_map,hr]; rfl
   have q1 : (k : Int) < l.length:=by omega
   have q2 : ¬ l.length ≤ k:=by omega
   have hw : IntKind.i64.wrap ((k : Int) + 1) = ((k + 1 : Nat) : Int):=w64 (by omega) (by omega)
   have cf:=boS_eq okN t
   cases hf : okN t with
   | false =>
     rw [hf] at cf
     rw [ascN_no hlt (by simp [goodN,hr,hf])]
     repeat' (first | intro (hb : _ = _) | refine ZV ?_ | refine ZB tm rnodes_specs_ok ?_ | refine ZH ?_ ?_ | refine ZJ (by conv=>lhs; simp [q1,q2,hm,cf]) ?_ | refine ZA ?_ ?_)
     all_goals (first | refine Yd ?_ | refine Ye ?_)
     all_goals (first | rfl | (simp; done) | (simp_all; done) | (simp_all; omega))
   | true =>
     rw [hf] at cf
     by_cases hz : k = 0
     · have hgk : goodN l k = true:=by subst hz; simp [goodN,hr,hf]
       have hgn : ∀ j,j < k + 1 → goodN l j = true:=fun j hj=>by
         have h0 : j = k:=by omega
         subst h0
         exact hgk
       have q5 : ¬ (0 : Int) < (k : Int):=by omega
       have q6 : ¬ 0 < k:=by omega
       clear hz
       repeat' (first | intro (hb : _ = _) | refine ZV ?_ | refine ZB tm rnodes_specs_ok ?_ | refine ZH ?_ ?_ | refine ZJ (by conv=>lhs; simp [q1,q2,q5,q6,hm,cf,hw]) ?_ | refine ZA ?_ ?_)
       exact ⟨⟨(k + 1,_),hlt,hgn⟩,by dsimp only; omega,AS.le_of rfl ⟨rfl,rfl,rfl,rfl,trivial⟩ (fun _=>rfl)⟩
     · obtain ⟨j,hj⟩ : ∃ j,k = j + 1:=⟨k - 1,by omega⟩
       obtain ⟨s,hs⟩:=get_lt (l:=l) (i:=j) (by omega)
       have hms : (l.map iC)[j]? = some [.int .i64 s]:=by rw [List.getElem?_map,hs]; rfl
       have q3 : ¬ l.length ≤ j:=by omega
       have q4 : (0 : Int) < (k : Int):=by omega
       have q4' : 0 < k:=by omega
       have hd : IntKind.i64.wrap ((k : Int) - 1) = (j : Int):=by rw [w64 (by omega) (by omega)]; omega
       have q1' : (j : Int) < l.length:=by omega
       by_cases hc : s < t
       · have hgk : goodN l k = true:=by subst hj; simp [goodN,hr,hf,hs,hc]
         have hc2 : ¬ t ≤ s:=by omega
         have hgn : ∀ i,i < k + 1 → goodN l i = true:=fun i hi=>by
           by_cases e : i = k
           · subst e
             exact hgk
           · exact hg i (by omega)
         repeat' (first | intro (hb : _ = _) | refine ZV ?_ | refine ZB tm rnodes_specs_ok ?_ | refine ZH ?_ ?_ | refine ZJ (by conv=>lhs; simp [q1,q1',q2,q3,q4,q4',hm,hms,cf,hw,hd,hc2]) ?_ | refine ZA ?_ ?_)
         exact ⟨⟨(k + 1,_),hlt,hgn⟩,by dsimp only; omega,AS.le_of rfl ⟨rfl,rfl,rfl,rfl,trivial⟩ (fun _=>rfl)⟩
       · rw [ascN_no hlt (by subst hj; simp [goodN,hr,hf,hs,hc])]
         have hc2 : t ≤ s:=by omega
         repeat' (first | intro (hb : _ = _) | refine ZV ?_ | refine ZB tm rnodes_specs_ok ?_ | refine ZH ?_ ?_ | refine ZJ (by conv=>lhs; simp [q1,q1',q2,q3,q4,q4',hm,hms,cf,hw,hd,hc2]) ?_ | refine ZA ?_ ?_)
         all_goals (first | refine Yd ?_ | refine Ye ?_)
         all_goals (first | rfl | (simp; done) | (simp_all; done) | (simp_all; omega))
noncomputable def rzero_specs : NL Spec := [(83,⟨1,brS⟩)]
theorem rzero_specs_ok : ∀ p ∈ rzero_specs,FnC Try.prog p.1 p.2.fn := by
 simp only [rzero_specs,List.mem_cons,List.not_mem_nil,or_false]
 rintro p rfl
 exact br_ok
attribute [local simp] rzero_specs
theorem rzero_ok : FnC Try.prog 67 zeS := by
 refine FnC.walk 67 (fn:=Try.f67) Try.func67 rfl (by kernel_rfl) fun d=>?_
 dsimp only
 have k1:=brS_eq d
 have k2:=onS_eq d
 obtain ⟨p0,p1,p2,q0,q1,q2,z0,z1,z2,z3,z4,z5,z6,z7,z8,p5,p6,p7,p8,p9,x0,x1,x2,x4,x5,x6,x7,x8,x9,x10,x11,x12,x13,x14,x15,x16,hd, -, -, -⟩:=obView d
 have hz : zO? d = ((x0 == 0) && ((x1 == 0) && bareZ d.cells)):=by unfold zO?; rw [hd]
 rw [hz]
 generalize bareZ d.cells = b at *
 rw [hd] at k1 k2 ⊢
 clear hz hd d
 change W _ (Ret _ _ (.bool ((x0 == 0) && ((x1 == 0) && b))) []) _ _ ⟨15,[(0, .agg [.int .u64 x0, .int .i64 x1, .int .i64 x2, .int .i64 p0, .int .u64 p1, .list 1 p2, .list 4 q0, .list 1 q1, .int .i64 q2, .int .i64 z0, .int .i64 z1, .int .i64 z2, .int .i64 z3, .int .i64 z4, .int .i64 z5, .int .i64 z6, .int .i64 z7, .int .i64 z8, .list 2 p5, .list 4 p6, .int .i64 p7, .int .i64 p8, .int .i64 p9, .list 1 x4, .list 1 x5, .int .i64 x6, .int .u64 x7, .int .i64 x8, .int .i64 x9, .list 1 x10, .list 1 x11, .list 1 x12, .int .i64 x13, .int .i64 x14, .int .i64 x15, .list 3 x16])],[]⟩
 dsimp only
 cases h1 : (x0 == 0) with
 | false =>
   repeat (first | refine ZS ?_ | refine ZK tm rzero_specs_ok rfl (by conv=>lhs; simp [k1,k2,h1]) fun _=>?_ | refine ZL tm rzero_specs_ok rfl (by conv=>lhs; simp [k1,k2,h1]) fun _=>?_)
   simp only [h1,Bool.true_and,Bool.false_and,Bool.and_false]
   exact Yr
 | true =>
   cases h2 : (x1 == 0) with
   | false =>
     repeat (first | refine ZS ?_ | refine ZK tm rzero_specs_ok rfl (by conv=>lhs; simp [k1,k2,h1,h2]) fun _=>?_ | refine ZL tm rzero_specs_ok rfl (by conv=>lhs; simp [k1,k2,h1,h2]) fun _=>?_)
     simp only [h1,h2,Bool.true_and,Bool.false_and,Bool.and_false]
     exact Yr
   | true =>
     repeat (first | refine ZS ?_ | refine ZK tm rzero_specs_ok rfl (by conv=>lhs; simp [k1,k2,h1,h2]) fun _=>?_ | refine ZL tm rzero_specs_ok rfl (by conv=>lhs; simp [k1,k2,h1,h2]) fun _=>?_)
     simp only [h1,h2,Bool.true_and,Bool.and_true]
     exact Yr
abbrev Il := {l : List Int // l.length ≤ 9000}
noncomputable def hasS : SpecFn := mkS (fun d : Il × Int => [.list 1 (d.1.1.map iC), .int .i64 d.2]) fun d => (.bool (decide (d.2 ∈ d.1.1)),[])
theorem hasS_eq (l : List Int) (h : l.length ≤ 9000) (n : Int) : hasS [.list 1 (l.map iC), .int .i64 n] [] = some (.bool (decide (n ∈ l)),[]) :=
 mkS_eq (enc:=fun d : Il × Int=>[AV.list 1 (d.1.1.map iC), .int .i64 d.2]) (res:=fun d=>(.bool (decide (d.2 ∈ d.1.1)),[])) (fun x y h=>by
   obtain ⟨⟨l,hl⟩,n⟩:=x
   obtain ⟨⟨l',hl'⟩,n'⟩:=y
   simp only [List.cons.injEq,AV.list.injEq,AV.int.injEq,true_and,and_true] at h
   obtain ⟨h,rfl⟩:=h
   cases iC_inj h
   rfl) (⟨l,h⟩,n)
theorem rhas_ok : FnC Try.prog 65 hasS := by
 refine FnC.walk 65 (fn:=Try.f65) Try.func65 rfl (by kernel_rfl) fun d=>?_
 obtain ⟨⟨l,hl⟩,n⟩:=d
 change W _ (Ret _ _ (.bool (decide (n ∈ l))) []) _ _ ⟨17,[(0, .list 1 (l.map iC)),(1, .int .i64 n)],[]⟩
 have cap : l.length ≤ 9223372036854775807:=by omega
 repeat' (first | intro (hb : _ = _) | refine ZV ?_ | refine ZB tm no_specs ?_ | refine ZH ?_ ?_ | refine ZJ (by conv=>lhs; simp [cap]) ?_ | refine ZA ?_ ?_)
 refine W.loop rfl (ι:={ q : Nat × NL ABlk // q.1 ≤ l.length ∧ n ∉ l.take q.1 })
   (fun q=>⟨17,[(1, .int .i64 n),(7, .list 1 (l.map iC)),(8, .int .i64 l.length),(9, .int .i64 (q.1.1 : Nat))],q.1.2⟩) (fun q=>l.length - q.1.1)
   ⟨(0,_),by simp,by simp⟩ (AS.le_of rfl ⟨rfl,rfl,rfl,rfl,trivial⟩ (fun _=>rfl)) ?_
 rintro ⟨⟨k,h⟩,hk,hg⟩
 dsimp only at hk hg ⊢
 by_cases hk2 : k = l.length
 · subst hk2
   rw [List.take_length] at hg
   rw [decide_eq_false hg]
   repeat' (first | intro (hb : _ = _) | refine ZV ?_ | refine ZB tm no_specs ?_ | refine ZH ?_ ?_ | refine ZJ (by conv=>lhs; simp) ?_ | refine ZA ?_ ?_)
   all_goals (first | refine Yd ?_ | refine Ye ?_)
   all_goals (first | rfl | (simp; done) | (simp_all; done) | (simp_all; omega))
 · have hlt : k < l.length:=by omega
   obtain ⟨t,hr⟩:=get_lt hlt
   have hm : (l.map iC)[k]? = some [.int .i64 t]:=by rw [List.getElem?_map,hr]; rfl
   have q1 : (k : Int) < l.length:=by omega
   have q2 : ¬ l.length ≤ k:=by omega
   have hw : IntKind.i64.wrap ((k : Int) + 1) = ((k + 1 : Nat) : Int):=w64 (by omega) (by omega)
   by_cases ht : t = n
   · subst ht
     rw [decide_eq_true (List.mem_of_getElem? hr)]
     repeat' (first | intro (hb : _ = _) | refine ZV ?_ | refine ZB tm no_specs ?_ | refine ZH ?_ ?_ | refine ZJ (by conv=>lhs; simp [q1,q2,hm]) ?_ | refine ZA ?_ ?_)
     all_goals (first | refine Yd ?_ | refine Ye ?_)
     all_goals (first | rfl | (simp; done) | (simp_all; done) | (simp_all; omega))
   · have hg2 : n ∉ l.take (k + 1):=by
       rw [List.take_add_one,hr]
       simp only [Option.toList_some,List.mem_append,List.mem_singleton,not_or]
       exact ⟨hg,fun e=>ht e.symm⟩
     have ht2 : (t == n) = false:=by simpa using ht
     repeat' (first | intro (hb : _ = _) | refine ZV ?_ | refine ZB tm no_specs ?_ | refine ZH ?_ ?_ | refine ZJ (by conv=>lhs; simp [q1,q2,hm,hw,ht2]) ?_ | refine ZA ?_ ?_)
     exact ⟨⟨(k + 1,_),hlt,hg2⟩,by dsimp only; omega,AS.le_of rfl ⟨rfl,rfl,rfl,rfl,trivial⟩ (fun _=>rfl)⟩
noncomputable def wioS : SpecFn := mkS (fun d : Il × Int => [.list 1 (d.1.1.map iC), .int .i64 d.2]) fun d => (.list 1 ((Dir.oth d.1.1 d.2).map iC),[])
theorem wioS_eq (l : List Int) (h : l.length ≤ 9000) (n : Int) : wioS [.list 1 (l.map iC), .int .i64 n] [] = some (.list 1 ((Dir.oth l n).map iC),[]) :=
 mkS_eq (enc:=fun d : Il × Int=>[AV.list 1 (d.1.1.map iC), .int .i64 d.2]) (res:=fun d=>(.list 1 ((Dir.oth d.1.1 d.2).map iC),[])) (fun x y h=>by
   obtain ⟨⟨l,hl⟩,n⟩:=x
   obtain ⟨⟨l',hl'⟩,n'⟩:=y
   simp only [List.cons.injEq,AV.list.injEq,AV.int.injEq,true_and,and_true] at h
   obtain ⟨h,rfl⟩:=h
   cases iC_inj h
   rfl) (⟨l,h⟩,n)
theorem ints_nrmR (l : List Int) : nrmR Try.prog [78] (.list 1 (l.map iC)) = .list 1 (l.map iC) := rc_list l
def IsLr (id s e : Nat) (h : NL ABlk) (P : AV) (l : List (List AV)) : Prop := (P = .nils ∧ l = []) ∨ ∃ g,P = .sl id g 0 l.length ∧ lk h id = some { gen := g,kind := 2,elem := e,size := s,inl := true,rows := l }
theorem oth_snoc (l : List Int) (n t : Int) : Dir.oth (l ++ [t]) n = if t = n then Dir.oth l n else Dir.oth l n ++ [t] := by
 simp only [Dir.oth,List.filter_append]
 split
 · rename_i h; simp [h]
 · rename_i h; simp [h]
theorem rwio_ok : FnC Try.prog 68 wioS := by
 refine FnC.walkN 68 (fn:=Try.f68) [78] Try.func68 rfl (by kernel_rfl) (fun d=>?_) (fun d=>⟨_,ints_nrmR _⟩)
 obtain ⟨⟨l,hl⟩,n⟩:=d
 change W _ (RetNf _ _ _ (.list 1 ((Dir.oth l n).map iC)) []) _ _ ⟨23,[(0, .list 1 (l.map iC)),(1, .int .i64 n)],[]⟩
 have cap : l.length ≤ 9223372036854775807:=by omega
 repeat' (first | intro (hb : _ = _) | refine ZV ?_ | refine ZB tm no_specs ?_ | refine ZH ?_ ?_ | refine ZJ (by conv=>lhs; simp [cap]) ?_ | refine ZA ?_ ?_)
 refine W.loop rfl (ι:={ q : Nat × AV × NL ABlk // q.1 ≤ l.length ∧ IsLr 336 1 3 q.2.2 q.2.1 ((Dir.oth (l.take q.1) n).map iC) })
   (fun q=>⟨23,[(1, .int .i64 n),(5,q.1.2.1),(8, .list 1 (l.map iC)),(9, .int .i64 l.length),(10, .int .i64 (q.1.1 : Nat))],q.1.2.2⟩) (fun q=>l.length - q.1.1)
   ⟨(0, .nils,_),by simp, .inl ⟨rfl,by simp [Dir.oth]⟩⟩ (AS.le_of rfl ⟨rfl,rfl,rfl,rfl,rfl,trivial⟩ (fun _=>rfl)) ?_
 rintro ⟨⟨k,P,h⟩,hk,hP⟩
 dsimp only at hk hP ⊢
 by_cases hk2 : k = l.length
 · subst hk2
   rw [List.take_length] at hP
   refine W.accD 5 (id:=336) (s:=1) (e:=3) (l:=(Dir.oth l n).map iC) rfl hP fun H' hH=>?_
   repeat' (first | intro (hb : _ = _) | refine ZV ?_ | refine ZB tm no_specs ?_ | refine ZH ?_ ?_ | refine ZJ (by conv=>lhs; simp) ?_ | refine ZA ?_ ?_)
   refine Ye ?_
   exact ints_nrmR _
 · have hlt : k < l.length:=by omega
   obtain ⟨t,hr⟩:=get_lt hlt
   have hm : (l.map iC)[k]? = some [.int .i64 t]:=by rw [List.getElem?_map,hr]; rfl
   have q1 : (k : Int) < l.length:=by omega
   have q2 : ¬ l.length ≤ k:=by omega
   have hw : IntKind.i64.wrap ((k : Int) + 1) = ((k + 1 : Nat) : Int):=w64 (by omega) (by omega)
   have ho : Dir.oth (l.take (k + 1)) n = if t = n then Dir.oth (l.take k) n else Dir.oth (l.take k) n ++ [t]:=by rw [List.take_add_one,hr]; exact oth_snoc _ _ _
   have hT : (Dir.oth (l.take k) n).length ≤ 9000:=Nat.le_trans (List.length_filter_le _ _) (by rw [List.length_take]; omega)
   by_cases ht : t = n
   · have ht2 : (t != n) = false:=by simpa using ht
     rw [if_pos ht] at ho
     rw [← ho] at hP
     repeat' (first | intro (hb : _ = _) | refine ZV ?_ | refine ZB tm no_specs ?_ | refine ZH ?_ ?_ | refine ZJ (by conv=>lhs; simp [q1,q2,hm,hw,ht2]) ?_ | refine ZA ?_ ?_)
     exact ⟨⟨(k + 1,P,_),hlt,hP⟩,by dsimp only; omega,AS.le_of rfl ⟨rfl,rfl,rfl,rfl,rfl,trivial⟩ (fun _=>rfl)⟩
   · have ht2 : (t != n) = true:=by simpa using ht
     rw [if_neg ht] at ho
     generalize Dir.oth (l.take k) n = T at *
     have y1 : T.length ≤ maxLen:=by simp only [maxLen]; omega
     have y2 : (T.length + 1) * 8 ≤ 140737488355328:=by omega
     have y4 : T.length + 1 ≤ maxLen:=by simp only [maxLen]; omega
     have fT : firstRows T.length (T.map iC) = T.map iC:=first_all (by simp)
     rcases hP with ⟨rfl,e2⟩ | ⟨g',rfl,hb⟩
     · have e3:=List.map_eq_nil_iff.1 e2
       repeat' (first | intro (hb : _ = _) | refine ZV ?_ | refine ZB tm no_specs ?_ | refine ZH ?_ ?_ | refine ZJ (by conv=>lhs; simp [q1,q2,hm,hw,ht2,m1]) ?_ | refine ZA ?_ ?_)
       exact ⟨⟨(k + 1, .sl 336 _ 0 1,_),hlt, .inr ⟨_,by simp [ho,e3]; rfl,by simp [lk_st,ho,e3,iC]⟩⟩,by dsimp only; omega,AS.le_of rfl ⟨rfl,rfl,rfl,rfl,rfl,trivial⟩ (fun _=>rfl)⟩
     · rw [List.length_map] at *
       repeat' (first | intro (hb : _ = _) | refine ZV ?_ | refine ZB tm no_specs ?_ | refine ZH ?_ ?_ | refine ZJ (by conv=>lhs; simp [q1,q2,hm,hw,ht2,hb,y1,y2,y4,fT,m1]) ?_ | refine ZA ?_ ?_)
       exact ⟨⟨(k + 1, .sl 336 (g' + 1) 0 (T.length + 1),_),hlt, .inr ⟨g' + 1,by simp [ho],by simp [lk_st,ho,iC]⟩⟩,by dsimp only; omega,AS.le_of rfl ⟨rfl,rfl,rfl,rfl,rfl,trivial⟩ (fun _=>rfl)⟩
def wit (n : Int) : List Int → List Int
 | []=>[n]
 | x :: r=>if x < n then x :: wit n r else if x = n then x :: r else n :: x :: r
theorem wit_len (n : Int) : ∀ l : List Int,(wit n l).length ≤ l.length + 1
 | []=>Nat.le_refl _
 | x :: r=>by
   have:=wit_len n r
   rw [wit]
   split
   · simp; omega
   · split <;> simp
noncomputable def witS : SpecFn := mkS (fun d : Il × Int => [.list 1 (d.1.1.map iC), .int .i64 d.2]) fun d => (.list 1 ((wit d.2 d.1.1).map iC),[])
theorem witS_eq (l : List Int) (h : l.length ≤ 9000) (n : Int) : witS [.list 1 (l.map iC), .int .i64 n] [] = some (.list 1 ((wit n l).map iC),[]) :=
 mkS_eq (enc:=fun d : Il × Int=>[AV.list 1 (d.1.1.map iC), .int .i64 d.2]) (res:=fun d=>(.list 1 ((wit d.2 d.1.1).map iC),[])) (fun x y h=>by
   obtain ⟨⟨l,hl⟩,n⟩:=x
   obtain ⟨⟨l',hl'⟩,n'⟩:=y
   simp only [List.cons.injEq,AV.list.injEq,AV.int.injEq,true_and,and_true] at h
   obtain ⟨h,rfl⟩:=h
   cases iC_inj h
   rfl) (⟨l,h⟩,n)
theorem rwit_ok : FnC Try.prog 81 witS := by
 refine FnC.walkN 81 (fn:=Try.f81) [78] Try.func81 rfl (by kernel_rfl) (fun d=>?_) (fun d=>⟨_,ints_nrmR _⟩)
 obtain ⟨⟨l,hl⟩,n⟩:=d
 change W _ (RetNf _ _ _ (.list 1 ((wit n l).map iC)) []) _ _ ⟨45,[(0, .list 1 (l.map iC)),(1, .int .i64 n)],[]⟩
 have cap : l.length ≤ 9223372036854775807:=by omega
 repeat' (first | intro (hb : _ = _) | refine ZV ?_ | refine ZB tm no_specs ?_ | refine ZH ?_ ?_ | refine ZJ (by conv=>lhs; simp [cap]) ?_ | refine ZA ?_ ?_)
 refine W.loop rfl (ι:={ q : Nat × NL ABlk // q.1 ≤ l.length ∧ wit n l = l.take q.1 ++ wit n (l.drop q.1) })
   (fun q=>⟨45,[(0, .list 1 (l.map iC)),(1, .int .i64 n),(5, .int .i64 (q.1.1 : Nat))],q.1.2⟩) (fun q=>l.length - q.1.1)
   ⟨(0,_),by simp,by simp⟩ (AS.le_of rfl ⟨rfl,rfl,rfl,trivial⟩ (fun _=>rfl)) ?_
 rintro ⟨⟨k,h⟩,hk,hg⟩
 dsimp only at hk hg ⊢
 have z1 : k ≤ maxLen:=by simp only [maxLen]; omega
 have z2 : (k + 1) * 8 ≤ 140737488355328:=by omega
 have z3 : k + 1 ≤ maxLen:=by simp only [maxLen]; omega
 have z4 : l.length ≤ maxLen:=by simp only [maxLen]; omega
 have z5 : l.length * 8 ≤ 140737488355328:=by omega
 have z6 : k * 8 ≤ 140737488355328:=by omega
 by_cases hk2 : k = l.length
 · subst hk2
   rw [List.take_length,List.drop_length,wit] at hg
   rw [hg]
   have tA : List.take l.length (l.map iC) = l.map iC:=List.take_of_length_le (by simp)
   have tB : List.drop l.length (l.map iC) = []:=List.drop_of_length_le (by simp)
   have f1 : firstRows l.length (l.map iC) = l.map iC:=first_all (by simp)
   have hS : l.length - l.length = 0:=by omega
   have f2 : firstRows (l.length + 1) (l.map iC ++ [[.int .i64 n]]) = l.map iC ++ [[.int .i64 n]]:=first_all (by simp)
   have t2 : List.take (l.length + 1) (l.map iC ++ [[.int .i64 n]]) = l.map iC ++ [[.int .i64 n]]:=List.take_of_length_le (by simp)
   repeat' (first | intro (hb : _ = _) | refine ZV ?_ | refine ZB tm no_specs ?_ | refine ZH ?_ ?_ | refine ZJ (by conv=>lhs; simp [cap,z1,z2,z3,z5,tA,tB,f1,f2,m1,hS]) ?_ | refine ZA ?_ ?_)
   refine RetNf.dataE rfl (by conv=>lhs; simp) (by conv=>lhs; simp [frqT,frqV,frq1,frz1,AP.run,t2]) (by first | rfl | simp [inlT,inlV]) ?_
   have:=ints_nrmR (l ++ [n])
   rw [List.map_append] at this ⊢
   exact this
 · have hlt : k < l.length:=by omega
   obtain ⟨t,hr⟩:=get_lt hlt
   have hm : (l.map iC)[k]? = some [.int .i64 t]:=by rw [List.getElem?_map,hr]; rfl
   have q1 : (k : Int) < l.length:=by omega
   have q2 : ¬ l.length ≤ k:=by omega
   have hw : IntKind.i64.wrap ((k : Int) + 1) = ((k + 1 : Nat) : Int):=w64 (by omega) (by omega)
   have hd : l.drop k = t :: l.drop (k + 1):=by
     obtain ⟨h1,h2⟩:=List.getElem?_eq_some_iff.1 hr
     rw [List.drop_eq_getElem_cons h1,h2]
   by_cases ht : t < n
   · have hg2 : wit n l = l.take (k + 1) ++ wit n (l.drop (k + 1)):=by
       rw [hg,hd,wit,if_pos ht,List.take_add_one,hr,List.append_assoc]
       rfl
     repeat' (first | intro (hb : _ = _) | refine ZV ?_ | refine ZB tm no_specs ?_ | refine ZH ?_ ?_ | refine ZJ (by conv=>lhs; simp [q1,q2,hm,hw,ht]) ?_ | refine ZA ?_ ?_)
     exact ⟨⟨(k + 1,_),hlt,hg2⟩,by dsimp only; omega,AS.le_of rfl ⟨rfl,rfl,rfl,trivial⟩ (fun _=>rfl)⟩
   · by_cases he : t = n
     · have he2 : (t == n) = true:=by simpa using he
       have hg2 : wit n l = l:=by rw [hg,hd,wit,if_neg ht,if_pos he, ← hd,List.take_append_drop]
       rw [hg2]
       have t2 : List.take l.length (l.map iC) = l.map iC:=List.take_of_length_le (by simp)
       repeat' (first | intro (hb : _ = _) | refine ZV ?_ | refine ZB tm no_specs ?_ | refine ZH ?_ ?_ | refine ZJ (by conv=>lhs; simp [q1,q2,hm,ht,he2,z4,z5]) ?_ | refine ZA ?_ ?_)
       refine RetNf.dataE rfl (by conv=>lhs; simp) (by conv=>lhs; simp [frqT,frqV,frq1,frz1,AP.run,t2]) (by first | rfl | simp [inlT,inlV]) ?_
       exact ints_nrmR l
     · have he2 : (t == n) = false:=by simpa using he
       have hg2 : wit n l = l.take k ++ n :: l.drop k:=by rw [hg,hd,wit,if_neg ht,if_neg he]
       rw [hg2]
       obtain ⟨A,hA⟩ : ∃ A,l.take k = A:=⟨_,rfl⟩
       obtain ⟨B,hB⟩ : ∃ B,l.drop k = B:=⟨_,rfl⟩
       have hAl : A.length = k:=by rw [← hA,List.length_take]; omega
       have hBl : A.length + B.length = l.length:=by rw [hAl, ← hB,List.length_drop]; omega
       have tA : List.take k (l.map iC) = A.map iC:=by rw [← hA,List.map_take]
       have tB : List.drop k (l.map iC) = B.map iC:=by rw [← hB,List.map_drop]
       rw [hA,hB]
       subst hAl
       clear hg hg2 hd hA hB
       have f1 : firstRows A.length (A.map iC) = A.map iC:=first_all (by simp)
       have f2 : firstRows (A.length + 1) (A.map iC ++ [[.int .i64 n]]) = A.map iC ++ [[.int .i64 n]]:=first_all (by simp)
       have y1 : (A.length + 1 + B.length) * 8 ≤ 140737488355328:=by omega
       have y2 : A.length + 1 + B.length ≤ maxLen:=by simp only [maxLen]; omega
       have tL : List.take l.length (l.map iC) = l.map iC:=List.take_of_length_le (by simp)
       have hS : l.length - A.length = B.length:=by omega
       have t2 : List.take (A.length + 1 + B.length) (A.map iC ++ [.int .i64 n] :: B.map iC) = A.map iC ++ [.int .i64 n] :: B.map iC:=List.take_of_length_le (by simp; omega)
       repeat' (first | intro (hb : _ = _) | refine ZV ?_ | refine ZB tm no_specs ?_ | refine ZH ?_ ?_ | refine ZJ (by conv=>lhs; simp [q1,q2,hk,hm,ht,he2,z1,z2,z3,z4,z5,z6,tA,tB,f1,f2,y1,y2,m1,tL,hS]) ?_ | refine ZA ?_ ?_)
       refine RetNf.dataE rfl (by conv=>lhs; simp) (by conv=>lhs; simp [frqT,frqV,frq1,frz1,AP.run,t2,show A.length + 1 + B.length ≤ A.length + (B.length + 1) by omega]) (by first | rfl | simp [inlT,inlV]) ?_
       have:=ints_nrmR (A ++ n :: B)
       rw [List.map_append,List.map_cons] at this ⊢
       exact this
end
section
attribute [local simp] instA slice3A slice3C
attribute [-simp] mkv
attribute [local simp] mkv_hd hdA_cons hdA_ob hdA_ob'
noncomputable def hdBad (e : En) (b1 b2 b3 : Bool) : Bool := e.id == 0 || (decide (e.owner < -1) || (decide (127 < e.owner) || (!b1 || (!b2 || ((decide (0 ≤ e.owner) && (decide (0 < e.readers.length) || !b3)) || ((!b3 && oid e.obj != e.id) || ((e.waiting.length : Int) == 0 && decide (0 < e.queue.length))))))))
theorem fine_hd (e : En) : fineB e = (!hdBad e (ascN e.readers) (ascN e.waiting) (zO? e.obj) && (!e.waiting.any (strg e) && !e.queue.any oddA)) := by
 unfold fineB hdBad
 generalize e.waiting.any (strg e) = b5
 generalize e.queue.any oddA = b6
 generalize ascN e.readers = b1
 generalize ascN e.waiting = b2
 generalize zO? e.obj = b3
 generalize e.readers.length = n1
 generalize e.waiting.length = n2
 generalize e.queue.length = n3
 by_cases h0 : e.id = 0
 · simp [h0]
 by_cases h1 : e.owner < -1
 · have h1' : ¬ -1 ≤ e.owner:=by omega
   simp [h1,h1']
 by_cases h2 : 127 < e.owner
 · have h2' : ¬ e.owner ≤ 127:=by omega
   simp [h2,h2']
 have h1' : -1 ≤ e.owner:=by omega
 have h2' : e.owner ≤ 127:=by omega
 have h3 : (e.owner == -1) = !decide (0 ≤ e.owner):=by
   by_cases h : 0 ≤ e.owner
   · have : e.owner ≠ -1:=by omega
     simp [h,this]
   · have : e.owner = -1:=by omega
     simp [this]
 have h4 : ((n1 : Int) == 0) = !decide (0 < n1):=by
   cases n1 <;> simp
   omega
 have h5 : decide ((0 : Int) < n2) = !((n2 : Int) == 0):=by
   cases n2 <;> simp
   omega
 have h6 : ((n3 : Int) == 0) = !decide (0 < n3):=by
   cases n3 <;> simp
   omega
 rw [h3,h4,h5,h6]
 simp only [h0,h1,h2,h1',h2',bne,decide_true,decide_false,beq_eq_false_iff_ne.2 h0]
 generalize decide (0 ≤ e.owner) = x1
 generalize decide (0 < n1) = x2
 generalize ((n2 : Int) == 0) = x3
 generalize decide (0 < n3) = x4
 generalize (oid e.obj == e.id) = x5
 cases x1 <;> cases x2 <;> cases x3 <;> cases x4 <;> cases x5 <;> cases b1 <;> cases b2 <;> cases b3 <;> cases b5 <;> cases b6 <;> rfl
noncomputable def rent_specs : NL Spec := [(89,⟨1,ilS ascN⟩),(67,⟨1,zeS⟩),(65,⟨1,hasS⟩),(63,⟨1,boS okN⟩)]
theorem rent_specs_ok : ∀ p ∈ rent_specs,FnC Try.prog p.1 p.2.fn := by
 simp only [rent_specs,List.mem_cons,List.not_mem_nil,or_false]
 rintro p (rfl | rfl | rfl | rfl)
 · exact rnodes_ok
 · exact rzero_ok
 · exact rhas_ok
 · exact rnode_ok
attribute [local simp] rent_specs
theorem rent_ok : FnC Try.prog 79 (enS fineB) := by
 refine FnC.walk 79 (fn:=Try.f79) Try.func79 rfl (by kernel_rfl) fun d=>?_
 obtain ⟨e,he⟩:=d
 have c1:=ilS_eq ascN e.readers he.1
 have c2:=ilS_eq ascN e.waiting he.2.1
 have c3:=zeS_eq e.obj
 have cap1 : e.readers.length ≤ 9223372036854775807:=by have:=he.1; omega
 have cap2 : e.waiting.length ≤ 9223372036854775807:=by have:=he.2.1; omega
 have cap3 : e.queue.length ≤ 9223372036854775807:=by have:=he.2.2; omega
 have hf:=fine_hd e
 dsimp only
 generalize fineB e = F at *
 generalize ascN e.readers = b1 at *
 generalize ascN e.waiting = b2 at *
 generalize zO? e.obj = b3 at *
 have hbad : hdBad e b1 b2 b3 = true → F = false:=fun h=>by rw [hf,h]; rfl
 have hgood : hdBad e b1 b2 b3 = false → F = (!e.waiting.any (strg e) && !e.queue.any oddA):=fun h=>by rw [hf,h]; rfl
 clear hf
 change W _ (Ret _ _ (.bool F) []) _ _ ⟨116,[(0, .agg (.int .u64 e.id :: .int .i64 e.owner :: .list 1 (e.readers.map iC) :: (e.obj.cells ++ [.list 1 (e.waiting.map iC), .list 2 (e.queue.map askC)])))],[]⟩
 repeat' (first | intro (hb : _ = _) | refine ZV ?_ | refine ZB (id:=0) tm rent_specs_ok ?_ | refine ZH ?_ ?_ | refine ZJ (by conv=>lhs; simp) ?_ | refine ZA ?_ ?_)
 refine W.cutT (fun σ'=>hdBad e b1 b2 b3 = false ∧ ∃ H,lk H 32 = some { gen:=1,kind:=2,elem:=128,size:=41,inl:=false,rows:=[enC e] } ∧ AS.le ⟨116,[(1, .ptr 32 1 0 0)],H⟩ σ') ?_ ?_
 · repeat' (first | intro (hb : _ = _) | refine ZV ?_ | refine ZB tm rent_specs_ok ?_ | refine ZH ?_ ?_ | refine ZJ (by conv=>lhs; simp [c1,c2,c3,cap1,cap2,cap3]) ?_ | refine ZA ?_ ?_)
   all_goals first
     | (have hF : F = false:=hbad (by clear hbad hgood; first | (simp [hdBad, *]; done) | (simp_all [hdBad]; done))
        subst hF
        exact Yr)
     | exact ⟨by simp [hdBad, *],_,by simp [lk_st,enC],AS.le_of rfl ⟨rfl,trivial⟩ (fun _=>rfl)⟩
 · rintro σ' ⟨hh,H,g1,hle⟩
   refine W.weak hle ?_
   clear hle
   have hF:=hgood hh
   clear hh hgood hbad c1 c2 c3
   simp only [enC] at g1
   repeat' (first | intro (hb : _ = _) | refine ZV ?_ | refine ZB tm rent_specs_ok ?_ | refine ZH ?_ ?_ | refine ZJ (by conv=>lhs; simp [g1,cap2]) ?_ | refine ZA ?_ ?_)
   refine W.loop rfl (ι:={ q : Nat × NL ABlk // q.1 ≤ e.waiting.length ∧ (∀ n ∈ e.waiting.take q.1,strg e n = false) ∧ lk q.2 32 = some { gen:=1,kind:=2,elem:=128,size:=41,inl:=false,rows:=[enC e] } })
     (fun q=>⟨116,[(1, .ptr 32 1 0 0),(76, .list 1 (e.waiting.map iC)),(77, .int .i64 e.waiting.length),(78, .int .i64 (q.1.1 : Nat))],q.1.2⟩) (fun q=>e.waiting.length - q.1.1)
     ⟨(0,_),by simp,by simp,by simp [g1]⟩ (AS.le_of rfl ⟨rfl,rfl,rfl,rfl,trivial⟩ (fun _=>rfl)) ?_
   clear g1 H
   rintro ⟨⟨k,H⟩,hk,hg,g1⟩
   dsimp only at hk hg g1 ⊢
   simp only [enC] at g1
   by_cases hk2 : k = e.waiting.length
   · subst hk2
     rw [List.take_length] at hg
     have h5 : e.waiting.any (strg e) = false:=by rw [List.any_eq_false]; exact fun n hn=>by simp [hg n hn]
     rw [h5] at hF
     clear hg
     repeat' (first | intro (hb : _ = _) | refine ZV ?_ | refine ZB tm rent_specs_ok ?_ | refine ZH ?_ ?_ | refine ZJ (by conv=>lhs; simp [g1,cap3]) ?_ | refine ZA ?_ ?_)
     refine W.loop rfl (ι:={ q : Nat × NL ABlk // q.1 ≤ e.queue.length ∧ (∀ n ∈ e.queue.take q.1,oddA n = false) })
       (fun q=>⟨116,[(95, .list 2 (e.queue.map askC)),(96, .int .i64 e.queue.length),(97, .int .i64 (q.1.1 : Nat))],q.1.2⟩) (fun q=>e.queue.length - q.1.1)
       ⟨(0,_),by simp,by simp⟩ (AS.le_of rfl ⟨rfl,rfl,rfl,trivial⟩ (fun _=>rfl)) ?_
     clear g1 H
     rintro ⟨⟨k,H⟩,hk,hg⟩
     dsimp only at hk hg ⊢
     by_cases hk2 : k = e.queue.length
     · subst hk2
       rw [List.take_length] at hg
       have h6 : e.queue.any oddA = false:=by rw [List.any_eq_false]; exact fun n hn=>by simp [hg n hn]
       rw [h6] at hF
       subst hF
       repeat' (first | intro (hb : _ = _) | refine ZV ?_ | refine ZB tm rent_specs_ok ?_ | refine ZH ?_ ?_ | refine ZJ (by conv=>lhs; simp) ?_ | refine ZA ?_ ?_)
       all_goals (first | refine Yd ?_ | refine Ye ?_)
       all_goals (first | rfl | (simp; done) | (simp_all; done) | (simp_all; omega))
     · have hlt : k < e.queue.length:=by omega
       obtain ⟨⟨a,m⟩,hr⟩:=get_lt hlt
       have hm : (e.queue.map askC)[k]? = some [.int .i64 a, .int .i64 m]:=by rw [List.getElem?_map,hr]; rfl
       have q1 : (k : Int) < e.queue.length:=by omega
       have q2 : ¬ e.queue.length ≤ k:=by omega
       have hw : IntKind.i64.wrap ((k : Int) + 1) = ((k + 1 : Nat) : Int):=w64 (by omega) (by omega)
       have cn:=boS_eq okN a
       have hbad : oddA (a,m) = true → F = false:=fun h=>by
         have : e.queue.any oddA = true:=List.any_eq_true.2 ⟨_,List.mem_of_getElem? hr,h⟩
         rw [hF,this]
         rfl
       have hgn : oddA (a,m) = false → ∀ n ∈ e.queue.take (k + 1),oddA n = false:=fun h n hn=>by
         rw [List.take_add_one,hr] at hn
         simp only [Option.toList_some,List.mem_append,List.mem_singleton] at hn
         rcases hn with hn | rfl
         · exact hg n hn
         · exact h
       unfold oddA at hbad
       simp only [oddA,okM] at hgn hbad
       generalize okN a = b at *
       clear hF hg
       repeat' (first | intro (hb : _ = _) | refine ZV ?_ | refine ZB tm rent_specs_ok ?_ | refine ZH ?_ ?_ | refine ZJ (by conv=>lhs; simp [q1,q2,hm,cn,hw]) ?_ | refine ZA ?_ ?_)
       all_goals first
         | (have hF : F = false:=hbad (by clear hbad hgn; first | (simp [*]; done) | (simp_all; done))
            subst hF
            exact Yr)
         | exact ⟨⟨(k + 1,_),hlt,hgn (by simp_all)⟩,by dsimp only; omega,AS.le_of rfl ⟨rfl,rfl,rfl,trivial⟩ (fun _=>rfl)⟩
   · have hlt : k < e.waiting.length:=by omega
     obtain ⟨n,hr⟩:=get_lt hlt
     have hm : (e.waiting.map iC)[k]? = some [.int .i64 n]:=by rw [List.getElem?_map,hr]; rfl
     have q1 : (k : Int) < e.waiting.length:=by omega
     have q2 : ¬ e.waiting.length ≤ k:=by omega
     have hw : IntKind.i64.wrap ((k : Int) + 1) = ((k + 1 : Nat) : Int):=w64 (by omega) (by omega)
     have cn:=hasS_eq e.readers he.1 n
     have hbad : strg e n = true → F = false:=fun h=>by
       have : e.waiting.any (strg e) = true:=List.any_eq_true.2 ⟨_,List.mem_of_getElem? hr,h⟩
       rw [hF,this]
       rfl
     have hgn : strg e n = false → ∀ n ∈ e.waiting.take (k + 1),strg e n = false:=fun h n hn=>by
       rw [List.take_add_one,hr] at hn
       simp only [Option.toList_some,List.mem_append,List.mem_singleton] at hn
       rcases hn with hn | rfl
       · exact hg n hn
       · exact h
     have hst : strg e n = (n != e.owner && !decide (n ∈ e.readers)):=rfl
     rw [hst] at hbad hgn
     generalize hb1 : decide (n ∈ e.readers) = b at *
     generalize hb2 : (n != e.owner) = b2 at *
     clear hF hg hst
     repeat' (first | intro (hb : _ = _) | refine ZV ?_ | refine ZB tm rent_specs_ok ?_ | refine ZH ?_ ?_ | refine ZJ (by conv=>lhs; simp [q1,q2,hm,cn,hw,g1,hb2]) ?_ | refine ZA ?_ ?_)
     all_goals first
       | (have hF : F = false:=hbad (by clear hbad hgn; first | (simp [*]; done) | (simp_all; done))
          subst hF
          exact Yr)
       | exact ⟨⟨(k + 1,_),hlt,hgn (by simp_all),by simp [lk_st,g1,enC]⟩,by dsimp only; omega,AS.le_of rfl ⟨rfl,rfl,rfl,rfl,trivial⟩ (fun _=>rfl)⟩
end
end Go.Abs.Np
