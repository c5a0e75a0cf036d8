/- Networks: that messages come in order (the walk). Conditions: none. -/
import Derived.Test.YtphclapfniepoaaNn5
namespace Go.Abs.Nn
open Go Go.Proofs Go.Abs
set_option maxRecDepth 100000
set_option maxHeartbeats 4000000
set_option linter.unusedSimpArgs false
set_option linter.unusedVariables false
section
attribute [local simp] instA slice3A slice3C makeSliceA indexA
attribute [-simp] mkv foundA
attribute [local simp] mkv_hd hdA_cons hdA_ob hdA_ob' lookupA mapEntryA entryStoreA makeMapA keyOf2 keyOKX2 findX_mR foundM found1 found0 zeroU
theorem nor_ok : FnC Try.prog 4 (mkS (fun l : Opn => [.list 1 (l.1.map byte)]) fun _ => (.bool true,[])) := by
 have sp : ∀ p ∈ ([(6,⟨1,sanS⟩),(8,⟨1,sdpN⟩),(9,⟨1,dlpS⟩),(12,⟨1,cutS⟩),(13,⟨1,rdyS⟩)] : NL Spec),FnC Try.prog p.1 p.2.fn:=by
   simp only [List.mem_cons,List.not_mem_nil,or_false]
   rintro p (rfl | rfl | rfl | rfl | rfl)
   · exact san_ok
   · exact sdpN_ok
   · exact dlp_ok
   · exact pct_ok
   · exact pry_ok
 refine FnC.walk 4 (fn:=Try.f4) Try.func4 rfl (by kernel_rfl) fun x=>?_
 obtain ⟨l,hl⟩:=x
 change W _ (Ret _ _ (.bool true) []) _ _ ⟨218,[(0, .list 1 (l.map byte))],[]⟩
 have cs:=sanS_eq
 have hcap : l.length ≤ 9223372036854775807:=hl
 repeat' (first | intro (hb : _ = _) | refine ZV ?_ | refine ZB (id:=0) tm sp ?_ | refine ZB (id:=1) tm sp ?_ | refine ZB (id:=2) tm sp ?_ | refine ZB (id:=3) tm sp ?_ | refine ZH ?_ ?_ | refine ZJ (by conv=>lhs; simp [cs,hcap]) ?_ | refine ZA ?_ ?_)
 refine W.nrmB 64 (leafs Try.prog 26) rfl rfl ?_
 rw [nts0_nr]
 repeat' (first | intro (hb : _ = _) | refine ZV ?_ | refine ZB (id:=4) tm sp ?_ | refine ZB (id:=5) tm sp ?_ | refine ZH ?_ ?_ | refine ZJ (by conv=>lhs; simp [hcap]) ?_ | refine ZA ?_ ?_)
 refine W.cutB (fun σ' => ∃ (ls : List Lk) (S G : Mp) (H : NL ABlk),Ord 100 ls S G ∧ lk H 64 = some (nwB ls) ∧ lk H 432 = some (mapB S) ∧ lk H 448 = some (mapB G) ∧ AS.le ⟨218,[(3, .ptr 64 1 0 0),(4, .amap 432 1),(5, .amap 448 1)],H⟩ σ') ?_ ?_
 · refine W.loop rfl (ι:={ q : Nat × List Lk × Mp × Mp × NL ABlk // (q.1 ≤ l.length ∧ q.1 ≤ 100) ∧ Ord q.1 q.2.1 q.2.2.1 q.2.2.2.1 ∧ lk q.2.2.2.2 64 = some (nwB q.2.1) ∧ lk q.2.2.2.2 432 = some (mapB q.2.2.1) ∧ lk q.2.2.2.2 448 = some (mapB q.2.2.2.1) })
     (fun q=>⟨218,[(3, .ptr 64 1 0 0),(4, .amap 432 1),(5, .amap 448 1),(28, .list 1 (l.map byte)),(29, .int .i64 l.length),(30, .int .i64 (q.1.1 : Nat))],q.1.2.2.2.2⟩) (fun q=>l.length - q.1.1)
     ⟨(0,[],[],[],_),⟨by simp,by dsimp only; omega⟩,ord0,by simp [lk,lk_st,nwB],by simp [lk,lk_st,mapB],by simp [lk,lk_st,mapB]⟩ (AS.le_of rfl ⟨rfl,rfl,rfl,rfl,rfl,rfl,trivial⟩ (fun _=>rfl)) ?_
   rintro ⟨⟨k,ls,S,G,H⟩,⟨hk,hk100⟩,ho,h3,h4,h5⟩
   dsimp only at hk hk100 ho h3 h4 h5 ⊢
   simp only [nwB,mapB] at h3 h4 h5
   by_cases hk2 : k = l.length
   · subst hk2
     have q1 : ¬ (l.length : Int) < l.length:=by omega
     repeat' (first | intro (hb : _ = _) | refine ZV ?_ | refine ZB tm sp ?_ | refine ZH ?_ ?_ | refine ZJ (by conv=>lhs; simp [q1]) ?_ | refine ZA ?_ ?_)
     exact ⟨ls,S,G,_,ho.mono hk100,by simp [lk_st,h3,nwB],by simp [lk_st,h4,mapB],by simp [lk_st,h5,mapB],AS.le_of rfl ⟨rfl,rfl,rfl,trivial⟩ (fun _=>rfl)⟩
   have hlt : k < l.length:=by omega
   obtain ⟨ov,hov⟩:=get_lt hlt
   obtain ⟨v,hv⟩ : ∃ v : Int,(ov.toNat : Int) = v:=⟨_,rfl⟩
   have hv0 : 0 ≤ v:=by omega
   have hv1 : v ≤ 255:=by have:=ov.toNat_lt; omega
   have hm : (l.map byte)[k]? = some [.int .u8 v]:=by rw [List.getElem?_map,hov, ← hv]; rfl
   clear hov hv
   have q1 : (k : Int) < l.length:=by omega
   have q2 : ¬ l.length ≤ k:=by omega
   have hw : IntKind.i64.wrap ((k : Int) + 1) = ((k + 1 : Nat) : Int):=w64 (by omega) (by omega)
   by_cases hk3 : k = 100
   · have q3 : (100 : Int) ≤ (k : Int):=by omega
     have q3' : 100 ≤ k:=by omega
     repeat' (first | intro (hb : _ = _) | refine ZV ?_ | refine ZB tm sp ?_ | refine ZH ?_ ?_ | refine ZJ (by conv=>lhs; simp [q1,q2,hm,q3,q3']) ?_ | refine ZA ?_ ?_)
     exact ⟨ls,S,G,_,ho.mono hk100,by simp [lk_st,h3,nwB],by simp [lk_st,h4,mapB],by simp [lk_st,h5,mapB],AS.le_of rfl ⟨rfl,rfl,rfl,trivial⟩ (fun _=>rfl)⟩
   have q3 : ¬ (100 : Int) ≤ (k : Int):=by omega
   have q3' : ¬ 100 ≤ k:=by omega
   have k1 : k + 1 ≤ 100:=by omega
   obtain ⟨a,b,c,v3,v9,wv,ma,dv3,w3,mb,dv9,w9,mc,ra,rb,hc⟩:=opsN hv0 hv1
   obtain ⟨d8,hd8⟩:=ho.nt8 (by omega)
   have hb:=ho.b (a,b)
   clear hl hk hk2 hk3 hv0 hv1 hk100
   rcases hc with rfl | rfl | rfl | rfl
   · obtain ⟨e1, o1⟩ := ord_send ho (by omega) ra rb
     have cS:=sdpN_eq0 d8 a b 0 0 0 (mGet (a,b) S : Nat) 0 0 0
     rw [hd8] at cS
     generalize sndN ls ⟨a,b,0,0,0,zOb,(mGet (a,b) S : Nat),0,0,0⟩ = R at *
     obtain ⟨L,e⟩:=R
     dsimp only at e1 o1
     subst e1
     simp only [rN,zO,List.cons_append,List.nil_append] at cS
     cases hx : mIx (a,b) S 0 with
     | none =>
       obtain ⟨g0,r0,r1,r2⟩:=mrow_none hx
       rw [g0,show ((0 : Nat) : Int) = 0 from rfl] at cS
       have wu : IntKind.u64.wrap 1 = 1:=by decide
       repeat' (first | intro (hb : _ = _) | refine ZV ?_ | refine ZB (id:=6) tm sp ?_ | refine ZB (id:=7) tm sp ?_ | refine ZB (id:=8) tm sp ?_ | refine ZB (id:=9) tm sp ?_ | refine ZB (id:=10) tm sp ?_ | refine ZB (id:=11) tm sp ?_ | refine ZB (id:=12) tm sp ?_ | refine ZB (id:=13) tm sp ?_ | refine ZB (id:=14) tm sp ?_ | refine ZB (id:=15) tm sp ?_ | refine ZB (id:=16) tm sp ?_ | refine ZB (id:=17) tm sp ?_ | refine ZB (id:=18) tm sp ?_ | refine ZB (id:=19) tm sp ?_ | refine ZB (id:=20) tm sp ?_ | refine ZB (id:=21) tm sp ?_ | refine ZH ?_ ?_ | refine ZJ (by conv=>lhs; simp [q1,q2,q3,q3',hm,h3,h4,h5,wv,ma,dv3,w3,mb,dv9,w9,mc,cS,hw,hx,g0,r1,r2,wu]) ?_ | refine ZA ?_ ?_)
       apply W.regionH (id:=22) (n:=218) (ts:=[(3, .ptr 64 1 0 0),(4, .amap 432 1),(5, .amap 448 1),(28, .list 1 (l.map byte)),(29, .int .i64 l.length),(30, .int .i64 (k : Nat))]) tm sp rfl
       case ha =>
         show allA _ _ _ _ _ 7 _ _
         refine allA_step 0 [1] (by kernel_rfl) ?_
         intro i hi
         simp only [List.mem_cons,List.not_mem_nil,or_false] at hi
         rcases hi with rfl | rfl
         · refine ⟨_,_,_,rfl,(by conv=>lhs; simp [q1,q2,q3,q3',hm,h3,h4,h5,wv,ma,dv3,w3,mb,dv9,w9,mc,cS,hw,hx,g0,r0,r1,r2,wu]),fun _=>?_⟩
           refine allA_step 1 [] (by kernel_rfl) ?_
           intro i hi
           simp only [List.mem_cons,List.not_mem_nil,or_false] at hi
           subst hi
           refine ⟨_,_,_,rfl,(by conv=>lhs; simp [q1,q2,q3,q3',hm,h3,h4,h5,wv,ma,dv3,w3,mb,dv9,w9,mc,cS,hw,hx,g0,r0,r1,r2,wu]),fun _=>?_⟩
           refine allA_step 2 [4] (by kernel_rfl) ?_
           intro i hi
           simp only [List.mem_cons,List.not_mem_nil,or_false] at hi
           rcases hi with rfl | rfl
           · refine ⟨_,_,_,rfl,(by conv=>lhs; simp [q1,q2,q3,q3',hm,h3,h4,h5,wv,ma,dv3,w3,mb,dv9,w9,mc,cS,hw,hx,g0,r0,r1,r2,wu]),fun _=>?_⟩
             refine allA_step 3 [4] (by kernel_rfl) ?_
             intro i hi
             simp only [List.mem_cons,List.not_mem_nil,or_false] at hi
             rcases hi with rfl | rfl
             · refine ⟨_,_,_,rfl,(by conv=>lhs; simp [q1,q2,q3,q3',hm,h3,h4,h5,wv,ma,dv3,w3,mb,dv9,w9,mc,cS,hw,hx,g0,r0,r1,r2,wu]),fun _=>?_⟩
               refine allA_step 4 [] (by kernel_rfl) ?_
               intro i hi
               simp only [List.mem_cons,List.not_mem_nil,or_false] at hi
               subst hi
               refine ⟨_,_,_,rfl,(by conv=>lhs; simp [q1,q2,q3,q3',hm,h3,h4,h5,wv,ma,dv3,w3,mb,dv9,w9,mc,cS,hw,hx,g0,r0,r1,r2,wu]),fun _=>?_⟩
               refine allA_step 5 [] (by kernel_rfl) ?_
               intro i hi
               simp only [List.mem_cons,List.not_mem_nil,or_false] at hi
               subst hi
               refine ⟨_,_,_,rfl,(by conv=>lhs; simp [q1,q2,q3,q3',hm,h3,h4,h5,wv,ma,dv3,w3,mb,dv9,w9,mc,cS,hw,hx,g0,r0,r1,r2,wu]),fun _=>?_⟩
               refine allA_step 6 [] (by kernel_rfl) ?_
               intro i hi
               simp only [List.mem_cons,List.not_mem_nil,or_false] at hi
               subst hi
               refine ⟨_,_,_,rfl,(by conv=>lhs; simp [q1,q2,q3,q3',hm,h3,h4,h5,wv,ma,dv3,w3,mb,dv9,w9,mc,cS,hw,hx,g0,r0,r1,r2,wu]),fun _=>?_⟩
               refine allA_end (by kernel_rfl) ?_
               exact AS.le_of rfl ⟨rfl,rfl,rfl,rfl,rfl,rfl,trivial⟩ (fun _=>rfl)
             · refine ⟨_,_,_,rfl,(by conv=>lhs; simp [q1,q2,q3,q3',hm,h3,h4,h5,wv,ma,dv3,w3,mb,dv9,w9,mc,cS,hw,hx,g0,r0,r1,r2,wu]),fun _=>?_⟩
               refine allA_step 3 [5] (by kernel_rfl) ?_
               intro i hi
               simp only [List.mem_cons,List.not_mem_nil,or_false] at hi
               rcases hi with rfl | rfl
               · refine ⟨_,_,_,rfl,(by conv=>lhs; simp [q1,q2,q3,q3',hm,h3,h4,h5,wv,ma,dv3,w3,mb,dv9,w9,mc,cS,hw,hx,g0,r0,r1,r2,wu]),fun _=>?_⟩
                 refine allA_step 5 [] (by kernel_rfl) ?_
                 intro i hi
                 simp only [List.mem_cons,List.not_mem_nil,or_false] at hi
                 subst hi
                 refine ⟨_,_,_,rfl,(by conv=>lhs; simp [q1,q2,q3,q3',hm,h3,h4,h5,wv,ma,dv3,w3,mb,dv9,w9,mc,cS,hw,hx,g0,r0,r1,r2,wu]),fun _=>?_⟩
                 refine allA_step 6 [] (by kernel_rfl) ?_
                 intro i hi
                 simp only [List.mem_cons,List.not_mem_nil,or_false] at hi
                 subst hi
                 refine ⟨_,_,_,rfl,(by conv=>lhs; simp [q1,q2,q3,q3',hm,h3,h4,h5,wv,ma,dv3,w3,mb,dv9,w9,mc,cS,hw,hx,g0,r0,r1,r2,wu]),fun _=>?_⟩
                 refine allA_end (by kernel_rfl) ?_
                 exact AS.le_of rfl ⟨rfl,rfl,rfl,rfl,rfl,rfl,trivial⟩ (fun _=>rfl)
               · refine ⟨_,_,_,rfl,(by conv=>lhs; simp [q1,q2,q3,q3',hm,h3,h4,h5,wv,ma,dv3,w3,mb,dv9,w9,mc,cS,hw,hx,g0,r0,r1,r2,wu]),fun _=>?_⟩
                 refine allA_step 3 [] (by kernel_rfl) ?_
                 intro i hi
                 simp only [List.mem_cons,List.not_mem_nil,or_false] at hi
                 subst hi
                 refine ⟨_,_,_,rfl,(by conv=>lhs; simp [q1,q2,q3,q3',hm,h3,h4,h5,wv,ma,dv3,w3,mb,dv9,w9,mc,cS,hw,hx,g0,r0,r1,r2,wu]),fun _=>?_⟩
                 refine allA_step 6 [] (by kernel_rfl) ?_
                 intro i hi
                 simp only [List.mem_cons,List.not_mem_nil,or_false] at hi
                 subst hi
                 refine ⟨_,_,_,rfl,(by conv=>lhs; simp [q1,q2,q3,q3',hm,h3,h4,h5,wv,ma,dv3,w3,mb,dv9,w9,mc,cS,hw,hx,g0,r0,r1,r2,wu]),fun _=>?_⟩
                 refine allA_end (by kernel_rfl) ?_
                 exact AS.le_of rfl ⟨rfl,rfl,rfl,rfl,rfl,rfl,trivial⟩ (fun _=>rfl)
           · refine ⟨_,_,_,rfl,(by conv=>lhs; simp [q1,q2,q3,q3',hm,h3,h4,h5,wv,ma,dv3,w3,mb,dv9,w9,mc,cS,hw,hx,g0,r0,r1,r2,wu]),fun _=>?_⟩
             refine allA_step 2 [5] (by kernel_rfl) ?_
             intro i hi
             simp only [List.mem_cons,List.not_mem_nil,or_false] at hi
             rcases hi with rfl | rfl
             · refine ⟨_,_,_,rfl,(by conv=>lhs; simp [q1,q2,q3,q3',hm,h3,h4,h5,wv,ma,dv3,w3,mb,dv9,w9,mc,cS,hw,hx,g0,r0,r1,r2,wu]),fun _=>?_⟩
               refine allA_step 3 [5] (by kernel_rfl) ?_
               intro i hi
               simp only [List.mem_cons,List.not_mem_nil,or_false] at hi
               rcases hi with rfl | rfl
               · refine ⟨_,_,_,rfl,(by conv=>lhs; simp [q1,q2,q3,q3',hm,h3,h4,h5,wv,ma,dv3,w3,mb,dv9,w9,mc,cS,hw,hx,g0,r0,r1,r2,wu]),fun _=>?_⟩
                 refine allA_step 5 [] (by kernel_rfl) ?_
                 intro i hi
                 simp only [List.mem_cons,List.not_mem_nil,or_false] at hi
                 subst hi
                 refine ⟨_,_,_,rfl,(by conv=>lhs; simp [q1,q2,q3,q3',hm,h3,h4,h5,wv,ma,dv3,w3,mb,dv9,w9,mc,cS,hw,hx,g0,r0,r1,r2,wu]),fun _=>?_⟩
                 refine allA_step 6 [] (by kernel_rfl) ?_
                 intro i hi
                 simp only [List.mem_cons,List.not_mem_nil,or_false] at hi
                 subst hi
                 refine ⟨_,_,_,rfl,(by conv=>lhs; simp [q1,q2,q3,q3',hm,h3,h4,h5,wv,ma,dv3,w3,mb,dv9,w9,mc,cS,hw,hx,g0,r0,r1,r2,wu]),fun _=>?_⟩
                 refine allA_end (by kernel_rfl) ?_
                 exact AS.le_of rfl ⟨rfl,rfl,rfl,rfl,rfl,rfl,trivial⟩ (fun _=>rfl)
               · refine ⟨_,_,_,rfl,(by conv=>lhs; simp [q1,q2,q3,q3',hm,h3,h4,h5,wv,ma,dv3,w3,mb,dv9,w9,mc,cS,hw,hx,g0,r0,r1,r2,wu]),fun _=>?_⟩
                 refine allA_step 3 [] (by kernel_rfl) ?_
                 intro i hi
                 simp only [List.mem_cons,List.not_mem_nil,or_false] at hi
                 subst hi
                 refine ⟨_,_,_,rfl,(by conv=>lhs; simp [q1,q2,q3,q3',hm,h3,h4,h5,wv,ma,dv3,w3,mb,dv9,w9,mc,cS,hw,hx,g0,r0,r1,r2,wu]),fun _=>?_⟩
                 refine allA_step 6 [] (by kernel_rfl) ?_
                 intro i hi
                 simp only [List.mem_cons,List.not_mem_nil,or_false] at hi
                 subst hi
                 refine ⟨_,_,_,rfl,(by conv=>lhs; simp [q1,q2,q3,q3',hm,h3,h4,h5,wv,ma,dv3,w3,mb,dv9,w9,mc,cS,hw,hx,g0,r0,r1,r2,wu]),fun _=>?_⟩
                 refine allA_end (by kernel_rfl) ?_
                 exact AS.le_of rfl ⟨rfl,rfl,rfl,rfl,rfl,rfl,trivial⟩ (fun _=>rfl)
             · refine ⟨_,_,_,rfl,(by conv=>lhs; simp [q1,q2,q3,q3',hm,h3,h4,h5,wv,ma,dv3,w3,mb,dv9,w9,mc,cS,hw,hx,g0,r0,r1,r2,wu]),fun _=>?_⟩
               refine allA_step 2 [] (by kernel_rfl) ?_
               intro i hi
               simp only [List.mem_cons,List.not_mem_nil,or_false] at hi
               subst hi
               refine ⟨_,_,_,rfl,(by conv=>lhs; simp [q1,q2,q3,q3',hm,h3,h4,h5,wv,ma,dv3,w3,mb,dv9,w9,mc,cS,hw,hx,g0,r0,r1,r2,wu]),fun _=>?_⟩
               refine allA_step 3 [] (by kernel_rfl) ?_
               intro i hi
               simp only [List.mem_cons,List.not_mem_nil,or_false] at hi
               subst hi
               refine ⟨_,_,_,rfl,(by conv=>lhs; simp [q1,q2,q3,q3',hm,h3,h4,h5,wv,ma,dv3,w3,mb,dv9,w9,mc,cS,hw,hx,g0,r0,r1,r2,wu]),fun _=>?_⟩
               refine allA_step 6 [] (by kernel_rfl) ?_
               intro i hi
               simp only [List.mem_cons,List.not_mem_nil,or_false] at hi
               subst hi
               refine ⟨_,_,_,rfl,(by conv=>lhs; simp [q1,q2,q3,q3',hm,h3,h4,h5,wv,ma,dv3,w3,mb,dv9,w9,mc,cS,hw,hx,g0,r0,r1,r2,wu]),fun _=>?_⟩
               refine allA_end (by kernel_rfl) ?_
               exact AS.le_of rfl ⟨rfl,rfl,rfl,rfl,rfl,rfl,trivial⟩ (fun _=>rfl)
         · refine ⟨_,_,_,rfl,(by conv=>lhs; simp [q1,q2,q3,q3',hm,h3,h4,h5,wv,ma,dv3,w3,mb,dv9,w9,mc,cS,hw,hx,g0,r0,r1,r2,wu]),fun _=>?_⟩
           refine allA_step 0 [] (by kernel_rfl) ?_
           intro i hi
           simp only [List.mem_cons,List.not_mem_nil,or_false] at hi
           subst hi
           refine ⟨_,_,_,rfl,(by conv=>lhs; simp [q1,q2,q3,q3',hm,h3,h4,h5,wv,ma,dv3,w3,mb,dv9,w9,mc,cS,hw,hx,g0,r0,r1,r2,wu]),fun _=>?_⟩
           refine allA_step 2 [4] (by kernel_rfl) ?_
           intro i hi
           simp only [List.mem_cons,List.not_mem_nil,or_false] at hi
           rcases hi with rfl | rfl
           · refine ⟨_,_,_,rfl,(by conv=>lhs; simp [q1,q2,q3,q3',hm,h3,h4,h5,wv,ma,dv3,w3,mb,dv9,w9,mc,cS,hw,hx,g0,r0,r1,r2,wu]),fun _=>?_⟩
             refine allA_step 3 [4] (by kernel_rfl) ?_
             intro i hi
             simp only [List.mem_cons,List.not_mem_nil,or_false] at hi
             rcases hi with rfl | rfl
             · refine ⟨_,_,_,rfl,(by conv=>lhs; simp [q1,q2,q3,q3',hm,h3,h4,h5,wv,ma,dv3,w3,mb,dv9,w9,mc,cS,hw,hx,g0,r0,r1,r2,wu]),fun _=>?_⟩
               refine allA_step 4 [] (by kernel_rfl) ?_
               intro i hi
               simp only [List.mem_cons,List.not_mem_nil,or_false] at hi
               subst hi
               refine ⟨_,_,_,rfl,(by conv=>lhs; simp [q1,q2,q3,q3',hm,h3,h4,h5,wv,ma,dv3,w3,mb,dv9,w9,mc,cS,hw,hx,g0,r0,r1,r2,wu]),fun _=>?_⟩
               refine allA_step 5 [] (by kernel_rfl) ?_
               intro i hi
               simp only [List.mem_cons,List.not_mem_nil,or_false] at hi
               subst hi
               refine ⟨_,_,_,rfl,(by conv=>lhs; simp [q1,q2,q3,q3',hm,h3,h4,h5,wv,ma,dv3,w3,mb,dv9,w9,mc,cS,hw,hx,g0,r0,r1,r2,wu]),fun _=>?_⟩
               refine allA_step 6 [] (by kernel_rfl) ?_
               intro i hi
               simp only [List.mem_cons,List.not_mem_nil,or_false] at hi
               subst hi
               refine ⟨_,_,_,rfl,(by conv=>lhs; simp [q1,q2,q3,q3',hm,h3,h4,h5,wv,ma,dv3,w3,mb,dv9,w9,mc,cS,hw,hx,g0,r0,r1,r2,wu]),fun _=>?_⟩
               refine allA_end (by kernel_rfl) ?_
               exact AS.le_of rfl ⟨rfl,rfl,rfl,rfl,rfl,rfl,trivial⟩ (fun _=>rfl)
             · refine ⟨_,_,_,rfl,(by conv=>lhs; simp [q1,q2,q3,q3',hm,h3,h4,h5,wv,ma,dv3,w3,mb,dv9,w9,mc,cS,hw,hx,g0,r0,r1,r2,wu]),fun _=>?_⟩
               refine allA_step 3 [5] (by kernel_rfl) ?_
               intro i hi
               simp only [List.mem_cons,List.not_mem_nil,or_false] at hi
               rcases hi with rfl | rfl
               · refine ⟨_,_,_,rfl,(by conv=>lhs; simp [q1,q2,q3,q3',hm,h3,h4,h5,wv,ma,dv3,w3,mb,dv9,w9,mc,cS,hw,hx,g0,r0,r1,r2,wu]),fun _=>?_⟩
                 refine allA_step 5 [] (by kernel_rfl) ?_
                 intro i hi
                 simp only [List.mem_cons,List.not_mem_nil,or_false] at hi
                 subst hi
                 refine ⟨_,_,_,rfl,(by conv=>lhs; simp [q1,q2,q3,q3',hm,h3,h4,h5,wv,ma,dv3,w3,mb,dv9,w9,mc,cS,hw,hx,g0,r0,r1,r2,wu]),fun _=>?_⟩
                 refine allA_step 6 [] (by kernel_rfl) ?_
                 intro i hi
                 simp only [List.mem_cons,List.not_mem_nil,or_false] at hi
                 subst hi
                 refine ⟨_,_,_,rfl,(by conv=>lhs; simp [q1,q2,q3,q3',hm,h3,h4,h5,wv,ma,dv3,w3,mb,dv9,w9,mc,cS,hw,hx,g0,r0,r1,r2,wu]),fun _=>?_⟩
                 refine allA_end (by kernel_rfl) ?_
                 exact AS.le_of rfl ⟨rfl,rfl,rfl,rfl,rfl,rfl,trivial⟩ (fun _=>rfl)
               · refine ⟨_,_,_,rfl,(by conv=>lhs; simp [q1,q2,q3,q3',hm,h3,h4,h5,wv,ma,dv3,w3,mb,dv9,w9,mc,cS,hw,hx,g0,r0,r1,r2,wu]),fun _=>?_⟩
                 refine allA_step 3 [] (by kernel_rfl) ?_
                 intro i hi
                 simp only [List.mem_cons,List.not_mem_nil,or_false] at hi
                 subst hi
                 refine ⟨_,_,_,rfl,(by conv=>lhs; simp [q1,q2,q3,q3',hm,h3,h4,h5,wv,ma,dv3,w3,mb,dv9,w9,mc,cS,hw,hx,g0,r0,r1,r2,wu]),fun _=>?_⟩
                 refine allA_step 6 [] (by kernel_rfl) ?_
                 intro i hi
                 simp only [List.mem_cons,List.not_mem_nil,or_false] at hi
                 subst hi
                 refine ⟨_,_,_,rfl,(by conv=>lhs; simp [q1,q2,q3,q3',hm,h3,h4,h5,wv,ma,dv3,w3,mb,dv9,w9,mc,cS,hw,hx,g0,r0,r1,r2,wu]),fun _=>?_⟩
                 refine allA_end (by kernel_rfl) ?_
                 exact AS.le_of rfl ⟨rfl,rfl,rfl,rfl,rfl,rfl,trivial⟩ (fun _=>rfl)
           · refine ⟨_,_,_,rfl,(by conv=>lhs; simp [q1,q2,q3,q3',hm,h3,h4,h5,wv,ma,dv3,w3,mb,dv9,w9,mc,cS,hw,hx,g0,r0,r1,r2,wu]),fun _=>?_⟩
             refine allA_step 2 [5] (by kernel_rfl) ?_
             intro i hi
             simp only [List.mem_cons,List.not_mem_nil,or_false] at hi
             rcases hi with rfl | rfl
             · refine ⟨_,_,_,rfl,(by conv=>lhs; simp [q1,q2,q3,q3',hm,h3,h4,h5,wv,ma,dv3,w3,mb,dv9,w9,mc,cS,hw,hx,g0,r0,r1,r2,wu]),fun _=>?_⟩
               refine allA_step 3 [5] (by kernel_rfl) ?_
               intro i hi
               simp only [List.mem_cons,List.not_mem_nil,or_false] at hi
               rcases hi with rfl | rfl
               · refine ⟨_,_,_,rfl,(by conv=>lhs; simp [q1,q2,q3,q3',hm,h3,h4,h5,wv,ma,dv3,w3,mb,dv9,w9,mc,cS,hw,hx,g0,r0,r1,r2,wu]),fun _=>?_⟩
                 refine allA_step 5 [] (by kernel_rfl) ?_
                 intro i hi
                 simp only [List.mem_cons,List.not_mem_nil,or_false] at hi
                 subst hi
                 refine ⟨_,_,_,rfl,(by conv=>lhs; simp [q1,q2,q3,q3',hm,h3,h4,h5,wv,ma,dv3,w3,mb,dv9,w9,mc,cS,hw,hx,g0,r0,r1,r2,wu]),fun _=>?_⟩
                 refine allA_step 6 [] (by kernel_rfl) ?_
                 intro i hi
                 simp only [List.mem_cons,List.not_mem_nil,or_false] at hi
                 subst hi
                 refine ⟨_,_,_,rfl,(by conv=>lhs; simp [q1,q2,q3,q3',hm,h3,h4,h5,wv,ma,dv3,w3,mb,dv9,w9,mc,cS,hw,hx,g0,r0,r1,r2,wu]),fun _=>?_⟩
                 refine allA_end (by kernel_rfl) ?_
                 exact AS.le_of rfl ⟨rfl,rfl,rfl,rfl,rfl,rfl,trivial⟩ (fun _=>rfl)
               · refine ⟨_,_,_,rfl,(by conv=>lhs; simp [q1,q2,q3,q3',hm,h3,h4,h5,wv,ma,dv3,w3,mb,dv9,w9,mc,cS,hw,hx,g0,r0,r1,r2,wu]),fun _=>?_⟩
                 refine allA_step 3 [] (by kernel_rfl) ?_
                 intro i hi
                 simp only [List.mem_cons,List.not_mem_nil,or_false] at hi
                 subst hi
                 refine ⟨_,_,_,rfl,(by conv=>lhs; simp [q1,q2,q3,q3',hm,h3,h4,h5,wv,ma,dv3,w3,mb,dv9,w9,mc,cS,hw,hx,g0,r0,r1,r2,wu]),fun _=>?_⟩
                 refine allA_step 6 [] (by kernel_rfl) ?_
                 intro i hi
                 simp only [List.mem_cons,List.not_mem_nil,or_false] at hi
                 subst hi
                 refine ⟨_,_,_,rfl,(by conv=>lhs; simp [q1,q2,q3,q3',hm,h3,h4,h5,wv,ma,dv3,w3,mb,dv9,w9,mc,cS,hw,hx,g0,r0,r1,r2,wu]),fun _=>?_⟩
                 refine allA_end (by kernel_rfl) ?_
                 exact AS.le_of rfl ⟨rfl,rfl,rfl,rfl,rfl,rfl,trivial⟩ (fun _=>rfl)
             · refine ⟨_,_,_,rfl,(by conv=>lhs; simp [q1,q2,q3,q3',hm,h3,h4,h5,wv,ma,dv3,w3,mb,dv9,w9,mc,cS,hw,hx,g0,r0,r1,r2,wu]),fun _=>?_⟩
               refine allA_step 2 [] (by kernel_rfl) ?_
               intro i hi
               simp only [List.mem_cons,List.not_mem_nil,or_false] at hi
               subst hi
               refine ⟨_,_,_,rfl,(by conv=>lhs; simp [q1,q2,q3,q3',hm,h3,h4,h5,wv,ma,dv3,w3,mb,dv9,w9,mc,cS,hw,hx,g0,r0,r1,r2,wu]),fun _=>?_⟩
               refine allA_step 3 [] (by kernel_rfl) ?_
               intro i hi
               simp only [List.mem_cons,List.not_mem_nil,or_false] at hi
               subst hi
               refine ⟨_,_,_,rfl,(by conv=>lhs; simp [q1,q2,q3,q3',hm,h3,h4,h5,wv,ma,dv3,w3,mb,dv9,w9,mc,cS,hw,hx,g0,r0,r1,r2,wu]),fun _=>?_⟩
               refine allA_step 6 [] (by kernel_rfl) ?_
               intro i hi
               simp only [List.mem_cons,List.not_mem_nil,or_false] at hi
               subst hi
               refine ⟨_,_,_,rfl,(by conv=>lhs; simp [q1,q2,q3,q3',hm,h3,h4,h5,wv,ma,dv3,w3,mb,dv9,w9,mc,cS,hw,hx,g0,r0,r1,r2,wu]),fun _=>?_⟩
               refine allA_end (by kernel_rfl) ?_
               exact AS.le_of rfl ⟨rfl,rfl,rfl,rfl,rfl,rfl,trivial⟩ (fun _=>rfl)
       repeat' (first | intro (hb : _ = _) | refine ZV ?_ | refine ZB tm sp ?_ | refine ZH ?_ ?_ | refine ZJ (by conv=>lhs; simp [hw]) ?_ | refine ZA ?_ ?_)
       exact ⟨⟨(k + 1,L,mInc (a,b) S,G,_),⟨hlt,k1⟩,o1,by simp [lk_st,nwB],by simp [lk_st,mapB],by simp [lk_st,h5,mapB]⟩,by dsimp only; omega,AS.le_of rfl ⟨rfl,rfl,rfl,rfl,rfl,rfl,trivial⟩ (fun _=>rfl)⟩
     | some x =>
       obtain ⟨j,n⟩:=x
       obtain ⟨g0,r1,r2,r3⟩:=mrow_some hx
       rw [g0] at cS hb
       have wu : IntKind.u64.wrap ((n : Int) + 1) = (n : Int) + 1:=wu64 (by omega) (by omega)
       repeat' (first | intro (hb : _ = _) | refine ZV ?_ | refine ZB (id:=6) tm sp ?_ | refine ZB (id:=7) tm sp ?_ | refine ZB (id:=8) tm sp ?_ | refine ZB (id:=9) tm sp ?_ | refine ZB (id:=10) tm sp ?_ | refine ZB (id:=11) tm sp ?_ | refine ZB (id:=12) tm sp ?_ | refine ZB (id:=13) tm sp ?_ | refine ZB (id:=14) tm sp ?_ | refine ZB (id:=15) tm sp ?_ | refine ZB (id:=16) tm sp ?_ | refine ZB (id:=17) tm sp ?_ | refine ZB (id:=18) tm sp ?_ | refine ZB (id:=19) tm sp ?_ | refine ZB (id:=20) tm sp ?_ | refine ZB (id:=21) tm sp ?_ | refine ZH ?_ ?_ | refine ZJ (by conv=>lhs; simp [q1,q2,q3,q3',hm,h3,h4,h5,wv,ma,dv3,w3,mb,dv9,w9,mc,cS,hw,hx,g0,r1,r2,r3,wu]) ?_ | refine ZA ?_ ?_)
       apply W.regionH (id:=22) (n:=218) (ts:=[(3, .ptr 64 1 0 0),(4, .amap 432 1),(5, .amap 448 1),(28, .list 1 (l.map byte)),(29, .int .i64 l.length),(30, .int .i64 (k : Nat))]) tm sp rfl
       case ha =>
         show allA _ _ _ _ _ 7 _ _
         refine allA_step 0 [1] (by kernel_rfl) ?_
         intro i hi
         simp only [List.mem_cons,List.not_mem_nil,or_false] at hi
         rcases hi with rfl | rfl
         · refine ⟨_,_,_,rfl,(by conv=>lhs; simp [q1,q2,q3,q3',hm,h3,h4,h5,wv,ma,dv3,w3,mb,dv9,w9,mc,cS,hw,hx,g0,r1,r2,r3,wu]),fun _=>?_⟩
           refine allA_step 1 [] (by kernel_rfl) ?_
           intro i hi
           simp only [List.mem_cons,List.not_mem_nil,or_false] at hi
           subst hi
           refine ⟨_,_,_,rfl,(by conv=>lhs; simp [q1,q2,q3,q3',hm,h3,h4,h5,wv,ma,dv3,w3,mb,dv9,w9,mc,cS,hw,hx,g0,r1,r2,r3,wu]),fun _=>?_⟩
           refine allA_step 2 [4] (by kernel_rfl) ?_
           intro i hi
           simp only [List.mem_cons,List.not_mem_nil,or_false] at hi
           rcases hi with rfl | rfl
           · refine ⟨_,_,_,rfl,(by conv=>lhs; simp [q1,q2,q3,q3',hm,h3,h4,h5,wv,ma,dv3,w3,mb,dv9,w9,mc,cS,hw,hx,g0,r1,r2,r3,wu]),fun _=>?_⟩
             refine allA_step 3 [4] (by kernel_rfl) ?_
             intro i hi
             simp only [List.mem_cons,List.not_mem_nil,or_false] at hi
             rcases hi with rfl | rfl
             · refine ⟨_,_,_,rfl,(by conv=>lhs; simp [q1,q2,q3,q3',hm,h3,h4,h5,wv,ma,dv3,w3,mb,dv9,w9,mc,cS,hw,hx,g0,r1,r2,r3,wu]),fun _=>?_⟩
               refine allA_step 4 [] (by kernel_rfl) ?_
               intro i hi
               simp only [List.mem_cons,List.not_mem_nil,or_false] at hi
               subst hi
               refine ⟨_,_,_,rfl,(by conv=>lhs; simp [q1,q2,q3,q3',hm,h3,h4,h5,wv,ma,dv3,w3,mb,dv9,w9,mc,cS,hw,hx,g0,r1,r2,r3,wu]),fun _=>?_⟩
               refine allA_step 5 [] (by kernel_rfl) ?_
               intro i hi
               simp only [List.mem_cons,List.not_mem_nil,or_false] at hi
               subst hi
               refine ⟨_,_,_,rfl,(by conv=>lhs; simp [q1,q2,q3,q3',hm,h3,h4,h5,wv,ma,dv3,w3,mb,dv9,w9,mc,cS,hw,hx,g0,r1,r2,r3,wu]),fun _=>?_⟩
               refine allA_step 6 [] (by kernel_rfl) ?_
               intro i hi
               simp only [List.mem_cons,List.not_mem_nil,or_false] at hi
               subst hi
               refine ⟨_,_,_,rfl,(by conv=>lhs; simp [q1,q2,q3,q3',hm,h3,h4,h5,wv,ma,dv3,w3,mb,dv9,w9,mc,cS,hw,hx,g0,r1,r2,r3,wu]),fun _=>?_⟩
               refine allA_end (by kernel_rfl) ?_
               exact AS.le_of rfl ⟨rfl,rfl,rfl,rfl,rfl,rfl,trivial⟩ (fun _=>rfl)
             · refine ⟨_,_,_,rfl,(by conv=>lhs; simp [q1,q2,q3,q3',hm,h3,h4,h5,wv,ma,dv3,w3,mb,dv9,w9,mc,cS,hw,hx,g0,r1,r2,r3,wu]),fun _=>?_⟩
               refine allA_step 3 [5] (by kernel_rfl) ?_
               intro i hi
               simp only [List.mem_cons,List.not_mem_nil,or_false] at hi
               rcases hi with rfl | rfl
               · refine ⟨_,_,_,rfl,(by conv=>lhs; simp [q1,q2,q3,q3',hm,h3,h4,h5,wv,ma,dv3,w3,mb,dv9,w9,mc,cS,hw,hx,g0,r1,r2,r3,wu]),fun _=>?_⟩
                 refine allA_step 5 [] (by kernel_rfl) ?_
                 intro i hi
                 simp only [List.mem_cons,List.not_mem_nil,or_false] at hi
                 subst hi
                 refine ⟨_,_,_,rfl,(by conv=>lhs; simp [q1,q2,q3,q3',hm,h3,h4,h5,wv,ma,dv3,w3,mb,dv9,w9,mc,cS,hw,hx,g0,r1,r2,r3,wu]),fun _=>?_⟩
                 refine allA_step 6 [] (by kernel_rfl) ?_
                 intro i hi
                 simp only [List.mem_cons,List.not_mem_nil,or_false] at hi
                 subst hi
                 refine ⟨_,_,_,rfl,(by conv=>lhs; simp [q1,q2,q3,q3',hm,h3,h4,h5,wv,ma,dv3,w3,mb,dv9,w9,mc,cS,hw,hx,g0,r1,r2,r3,wu]),fun _=>?_⟩
                 refine allA_end (by kernel_rfl) ?_
                 exact AS.le_of rfl ⟨rfl,rfl,rfl,rfl,rfl,rfl,trivial⟩ (fun _=>rfl)
               · refine ⟨_,_,_,rfl,(by conv=>lhs; simp [q1,q2,q3,q3',hm,h3,h4,h5,wv,ma,dv3,w3,mb,dv9,w9,mc,cS,hw,hx,g0,r1,r2,r3,wu]),fun _=>?_⟩
                 refine allA_step 3 [] (by kernel_rfl) ?_
                 intro i hi
                 simp only [List.mem_cons,List.not_mem_nil,or_false] at hi
                 subst hi
                 refine ⟨_,_,_,rfl,(by conv=>lhs; simp [q1,q2,q3,q3',hm,h3,h4,h5,wv,ma,dv3,w3,mb,dv9,w9,mc,cS,hw,hx,g0,r1,r2,r3,wu]),fun _=>?_⟩
                 refine allA_step 6 [] (by kernel_rfl) ?_
                 intro i hi
                 simp only [List.mem_cons,List.not_mem_nil,or_false] at hi
                 subst hi
                 refine ⟨_,_,_,rfl,(by conv=>lhs; simp [q1,q2,q3,q3',hm,h3,h4,h5,wv,ma,dv3,w3,mb,dv9,w9,mc,cS,hw,hx,g0,r1,r2,r3,wu]),fun _=>?_⟩
                 refine allA_end (by kernel_rfl) ?_
                 exact AS.le_of rfl ⟨rfl,rfl,rfl,rfl,rfl,rfl,trivial⟩ (fun _=>rfl)
           · refine ⟨_,_,_,rfl,(by conv=>lhs; simp [q1,q2,q3,q3',hm,h3,h4,h5,wv,ma,dv3,w3,mb,dv9,w9,mc,cS,hw,hx,g0,r1,r2,r3,wu]),fun _=>?_⟩
             refine allA_step 2 [5] (by kernel_rfl) ?_
             intro i hi
             simp only [List.mem_cons,List.not_mem_nil,or_false] at hi
             rcases hi with rfl | rfl
             · refine ⟨_,_,_,rfl,(by conv=>lhs; simp [q1,q2,q3,q3',hm,h3,h4,h5,wv,ma,dv3,w3,mb,dv9,w9,mc,cS,hw,hx,g0,r1,r2,r3,wu]),fun _=>?_⟩
               refine allA_step 3 [5] (by kernel_rfl) ?_
               intro i hi
               simp only [List.mem_cons,List.not_mem_nil,or_false] at hi
               rcases hi with rfl | rfl
               · refine ⟨_,_,_,rfl,(by conv=>lhs; simp [q1,q2,q3,q3',hm,h3,h4,h5,wv,ma,dv3,w3,mb,dv9,w9,mc,cS,hw,hx,g0,r1,r2,r3,wu]),fun _=>?_⟩
                 refine allA_step 5 [] (by kernel_rfl) ?_
                 intro i hi
                 simp only [List.mem_cons,List.not_mem_nil,or_false] at hi
                 subst hi
                 refine ⟨_,_,_,rfl,(by conv=>lhs; simp [q1,q2,q3,q3',hm,h3,h4,h5,wv,ma,dv3,w3,mb,dv9,w9,mc,cS,hw,hx,g0,r1,r2,r3,wu]),fun _=>?_⟩
                 refine allA_step 6 [] (by kernel_rfl) ?_
                 intro i hi
                 simp only [List.mem_cons,List.not_mem_nil,or_false] at hi
                 subst hi
                 refine ⟨_,_,_,rfl,(by conv=>lhs; simp [q1,q2,q3,q3',hm,h3,h4,h5,wv,ma,dv3,w3,mb,dv9,w9,mc,cS,hw,hx,g0,r1,r2,r3,wu]),fun _=>?_⟩
                 refine allA_end (by kernel_rfl) ?_
                 exact AS.le_of rfl ⟨rfl,rfl,rfl,rfl,rfl,rfl,trivial⟩ (fun _=>rfl)
               · refine ⟨_,_,_,rfl,(by conv=>lhs; simp [q1,q2,q3,q3',hm,h3,h4,h5,wv,ma,dv3,w3,mb,dv9,w9,mc,cS,hw,hx,g0,r1,r2,r3,wu]),fun _=>?_⟩
                 refine allA_step 3 [] (by kernel_rfl) ?_
                 intro i hi
                 simp only [List.mem_cons,List.not_mem_nil,or_false] at hi
                 subst hi
                 refine ⟨_,_,_,rfl,(by conv=>lhs; simp [q1,q2,q3,q3',hm,h3,h4,h5,wv,ma,dv3,w3,mb,dv9,w9,mc,cS,hw,hx,g0,r1,r2,r3,wu]),fun _=>?_⟩
                 refine allA_step 6 [] (by kernel_rfl) ?_
                 intro i hi
                 simp only [List.mem_cons,List.not_mem_nil,or_false] at hi
                 subst hi
                 refine ⟨_,_,_,rfl,(by conv=>lhs; simp [q1,q2,q3,q3',hm,h3,h4,h5,wv,ma,dv3,w3,mb,dv9,w9,mc,cS,hw,hx,g0,r1,r2,r3,wu]),fun _=>?_⟩
                 refine allA_end (by kernel_rfl) ?_
                 exact AS.le_of rfl ⟨rfl,rfl,rfl,rfl,rfl,rfl,trivial⟩ (fun _=>rfl)
             · refine ⟨_,_,_,rfl,(by conv=>lhs; simp [q1,q2,q3,q3',hm,h3,h4,h5,wv,ma,dv3,w3,mb,dv9,w9,mc,cS,hw,hx,g0,r1,r2,r3,wu]),fun _=>?_⟩
               refine allA_step 2 [] (by kernel_rfl) ?_
               intro i hi
               simp only [List.mem_cons,List.not_mem_nil,or_false] at hi
               subst hi
               refine ⟨_,_,_,rfl,(by conv=>lhs; simp [q1,q2,q3,q3',hm,h3,h4,h5,wv,ma,dv3,w3,mb,dv9,w9,mc,cS,hw,hx,g0,r1,r2,r3,wu]),fun _=>?_⟩
               refine allA_step 3 [] (by kernel_rfl) ?_
               intro i hi
               simp only [List.mem_cons,List.not_mem_nil,or_false] at hi
               subst hi
               refine ⟨_,_,_,rfl,(by conv=>lhs; simp [q1,q2,q3,q3',hm,h3,h4,h5,wv,ma,dv3,w3,mb,dv9,w9,mc,cS,hw,hx,g0,r1,r2,r3,wu]),fun _=>?_⟩
               refine allA_step 6 [] (by kernel_rfl) ?_
               intro i hi
               simp only [List.mem_cons,List.not_mem_nil,or_false] at hi
               subst hi
               refine ⟨_,_,_,rfl,(by conv=>lhs; simp [q1,q2,q3,q3',hm,h3,h4,h5,wv,ma,dv3,w3,mb,dv9,w9,mc,cS,hw,hx,g0,r1,r2,r3,wu]),fun _=>?_⟩
               refine allA_end (by kernel_rfl) ?_
               exact AS.le_of rfl ⟨rfl,rfl,rfl,rfl,rfl,rfl,trivial⟩ (fun _=>rfl)
         · refine ⟨_,_,_,rfl,(by conv=>lhs; simp [q1,q2,q3,q3',hm,h3,h4,h5,wv,ma,dv3,w3,mb,dv9,w9,mc,cS,hw,hx,g0,r1,r2,r3,wu]),fun _=>?_⟩
           refine allA_step 0 [] (by kernel_rfl) ?_
           intro i hi
           simp only [List.mem_cons,List.not_mem_nil,or_false] at hi
           subst hi
           refine ⟨_,_,_,rfl,(by conv=>lhs; simp [q1,q2,q3,q3',hm,h3,h4,h5,wv,ma,dv3,w3,mb,dv9,w9,mc,cS,hw,hx,g0,r1,r2,r3,wu]),fun _=>?_⟩
           refine allA_step 2 [4] (by kernel_rfl) ?_
           intro i hi
           simp only [List.mem_cons,List.not_mem_nil,or_false] at hi
           rcases hi with rfl | rfl
           · refine ⟨_,_,_,rfl,(by conv=>lhs; simp [q1,q2,q3,q3',hm,h3,h4,h5,wv,ma,dv3,w3,mb,dv9,w9,mc,cS,hw,hx,g0,r1,r2,r3,wu]),fun _=>?_⟩
             refine allA_step 3 [4] (by kernel_rfl) ?_
             intro i hi
             simp only [List.mem_cons,List.not_mem_nil,or_false] at hi
             rcases hi with rfl | rfl
             · refine ⟨_,_,_,rfl,(by conv=>lhs; simp [q1,q2,q3,q3',hm,h3,h4,h5,wv,ma,dv3,w3,mb,dv9,w9,mc,cS,hw,hx,g0,r1,r2,r3,wu]),fun _=>?_⟩
               refine allA_step 4 [] (by kernel_rfl) ?_
               intro i hi
               simp only [List.mem_cons,List.not_mem_nil,or_false] at hi
               subst hi
               refine ⟨_,_,_,rfl,(by conv=>lhs; simp [q1,q2,q3,q3',hm,h3,h4,h5,wv,ma,dv3,w3,mb,dv9,w9,mc,cS,hw,hx,g0,r1,r2,r3,wu]),fun _=>?_⟩
               refine allA_step 5 [] (by kernel_rfl) ?_
               intro i hi
               simp only [List.mem_cons,List.not_mem_nil,or_false] at hi
               subst hi
               refine ⟨_,_,_,rfl,(by conv=>lhs; simp [q1,q2,q3,q3',hm,h3,h4,h5,wv,ma,dv3,w3,mb,dv9,w9,mc,cS,hw,hx,g0,r1,r2,r3,wu]),fun _=>?_⟩
               refine allA_step 6 [] (by kernel_rfl) ?_
               intro i hi
               simp only [List.mem_cons,List.not_mem_nil,or_false] at hi
               subst hi
               refine ⟨_,_,_,rfl,(by conv=>lhs; simp [q1,q2,q3,q3',hm,h3,h4,h5,wv,ma,dv3,w3,mb,dv9,w9,mc,cS,hw,hx,g0,r1,r2,r3,wu]),fun _=>?_⟩
               refine allA_end (by kernel_rfl) ?_
               exact AS.le_of rfl ⟨rfl,rfl,rfl,rfl,rfl,rfl,trivial⟩ (fun _=>rfl)
             · refine ⟨_,_,_,rfl,(by conv=>lhs; simp [q1,q2,q3,q3',hm,h3,h4,h5,wv,ma,dv3,w3,mb,dv9,w9,mc,cS,hw,hx,g0,r1,r2,r3,wu]),fun _=>?_⟩
               refine allA_step 3 [5] (by kernel_rfl) ?_
               intro i hi
               simp only [List.mem_cons,List.not_mem_nil,or_false] at hi
               rcases hi with rfl | rfl
               · refine ⟨_,_,_,rfl,(by conv=>lhs; simp [q1,q2,q3,q3',hm,h3,h4,h5,wv,ma,dv3,w3,mb,dv9,w9,mc,cS,hw,hx,g0,r1,r2,r3,wu]),fun _=>?_⟩
                 refine allA_step 5 [] (by kernel_rfl) ?_
                 intro i hi
                 simp only [List.mem_cons,List.not_mem_nil,or_false] at hi
                 subst hi
                 refine ⟨_,_,_,rfl,(by conv=>lhs; simp [q1,q2,q3,q3',hm,h3,h4,h5,wv,ma,dv3,w3,mb,dv9,w9,mc,cS,hw,hx,g0,r1,r2,r3,wu]),fun _=>?_⟩
                 refine allA_step 6 [] (by kernel_rfl) ?_
                 intro i hi
                 simp only [List.mem_cons,List.not_mem_nil,or_false] at hi
                 subst hi
                 refine ⟨_,_,_,rfl,(by conv=>lhs; simp [q1,q2,q3,q3',hm,h3,h4,h5,wv,ma,dv3,w3,mb,dv9,w9,mc,cS,hw,hx,g0,r1,r2,r3,wu]),fun _=>?_⟩
                 refine allA_end (by kernel_rfl) ?_
                 exact AS.le_of rfl ⟨rfl,rfl,rfl,rfl,rfl,rfl,trivial⟩ (fun _=>rfl)
               · refine ⟨_,_,_,rfl,(by conv=>lhs; simp [q1,q2,q3,q3',hm,h3,h4,h5,wv,ma,dv3,w3,mb,dv9,w9,mc,cS,hw,hx,g0,r1,r2,r3,wu]),fun _=>?_⟩
                 refine allA_step 3 [] (by kernel_rfl) ?_
                 intro i hi
                 simp only [List.mem_cons,List.not_mem_nil,or_false] at hi
                 subst hi
                 refine ⟨_,_,_,rfl,(by conv=>lhs; simp [q1,q2,q3,q3',hm,h3,h4,h5,wv,ma,dv3,w3,mb,dv9,w9,mc,cS,hw,hx,g0,r1,r2,r3,wu]),fun _=>?_⟩
                 refine allA_step 6 [] (by kernel_rfl) ?_
                 intro i hi
                 simp only [List.mem_cons,List.not_mem_nil,or_false] at hi
                 subst hi
                 refine ⟨_,_,_,rfl,(by conv=>lhs; simp [q1,q2,q3,q3',hm,h3,h4,h5,wv,ma,dv3,w3,mb,dv9,w9,mc,cS,hw,hx,g0,r1,r2,r3,wu]),fun _=>?_⟩
                 refine allA_end (by kernel_rfl) ?_
                 exact AS.le_of rfl ⟨rfl,rfl,rfl,rfl,rfl,rfl,trivial⟩ (fun _=>rfl)
           · refine ⟨_,_,_,rfl,(by conv=>lhs; simp [q1,q2,q3,q3',hm,h3,h4,h5,wv,ma,dv3,w3,mb,dv9,w9,mc,cS,hw,hx,g0,r1,r2,r3,wu]),fun _=>?_⟩
             refine allA_step 2 [5] (by kernel_rfl) ?_
             intro i hi
             simp only [List.mem_cons,List.not_mem_nil,or_false] at hi
             rcases hi with rfl | rfl
             · refine ⟨_,_,_,rfl,(by conv=>lhs; simp [q1,q2,q3,q3',hm,h3,h4,h5,wv,ma,dv3,w3,mb,dv9,w9,mc,cS,hw,hx,g0,r1,r2,r3,wu]),fun _=>?_⟩
               refine allA_step 3 [5] (by kernel_rfl) ?_
               intro i hi
               simp only [List.mem_cons,List.not_mem_nil,or_false] at hi
               rcases hi with rfl | rfl
               · refine ⟨_,_,_,rfl,(by conv=>lhs; simp [q1,q2,q3,q3',hm,h3,h4,h5,wv,ma,dv3,w3,mb,dv9,w9,mc,cS,hw,hx,g0,r1,r2,r3,wu]),fun _=>?_⟩
                 refine allA_step 5 [] (by kernel_rfl) ?_
                 intro i hi
                 simp only [List.mem_cons,List.not_mem_nil,or_false] at hi
                 subst hi
                 refine ⟨_,_,_,rfl,(by conv=>lhs; simp [q1,q2,q3,q3',hm,h3,h4,h5,wv,ma,dv3,w3,mb,dv9,w9,mc,cS,hw,hx,g0,r1,r2,r3,wu]),fun _=>?_⟩
                 refine allA_step 6 [] (by kernel_rfl) ?_
                 intro i hi
                 simp only [List.mem_cons,List.not_mem_nil,or_false] at hi
                 subst hi
                 refine ⟨_,_,_,rfl,(by conv=>lhs; simp [q1,q2,q3,q3',hm,h3,h4,h5,wv,ma,dv3,w3,mb,dv9,w9,mc,cS,hw,hx,g0,r1,r2,r3,wu]),fun _=>?_⟩
                 refine allA_end (by kernel_rfl) ?_
                 exact AS.le_of rfl ⟨rfl,rfl,rfl,rfl,rfl,rfl,trivial⟩ (fun _=>rfl)
               · refine ⟨_,_,_,rfl,(by conv=>lhs; simp [q1,q2,q3,q3',hm,h3,h4,h5,wv,ma,dv3,w3,mb,dv9,w9,mc,cS,hw,hx,g0,r1,r2,r3,wu]),fun _=>?_⟩
                 refine allA_step 3 [] (by kernel_rfl) ?_
                 intro i hi
                 simp only [List.mem_cons,List.not_mem_nil,or_false] at hi
                 subst hi
                 refine ⟨_,_,_,rfl,(by conv=>lhs; simp [q1,q2,q3,q3',hm,h3,h4,h5,wv,ma,dv3,w3,mb,dv9,w9,mc,cS,hw,hx,g0,r1,r2,r3,wu]),fun _=>?_⟩
                 refine allA_step 6 [] (by kernel_rfl) ?_
                 intro i hi
                 simp only [List.mem_cons,List.not_mem_nil,or_false] at hi
                 subst hi
                 refine ⟨_,_,_,rfl,(by conv=>lhs; simp [q1,q2,q3,q3',hm,h3,h4,h5,wv,ma,dv3,w3,mb,dv9,w9,mc,cS,hw,hx,g0,r1,r2,r3,wu]),fun _=>?_⟩
                 refine allA_end (by kernel_rfl) ?_
                 exact AS.le_of rfl ⟨rfl,rfl,rfl,rfl,rfl,rfl,trivial⟩ (fun _=>rfl)
             · refine ⟨_,_,_,rfl,(by conv=>lhs; simp [q1,q2,q3,q3',hm,h3,h4,h5,wv,ma,dv3,w3,mb,dv9,w9,mc,cS,hw,hx,g0,r1,r2,r3,wu]),fun _=>?_⟩
               refine allA_step 2 [] (by kernel_rfl) ?_
               intro i hi
               simp only [List.mem_cons,List.not_mem_nil,or_false] at hi
               subst hi
               refine ⟨_,_,_,rfl,(by conv=>lhs; simp [q1,q2,q3,q3',hm,h3,h4,h5,wv,ma,dv3,w3,mb,dv9,w9,mc,cS,hw,hx,g0,r1,r2,r3,wu]),fun _=>?_⟩
               refine allA_step 3 [] (by kernel_rfl) ?_
               intro i hi
               simp only [List.mem_cons,List.not_mem_nil,or_false] at hi
               subst hi
               refine ⟨_,_,_,rfl,(by conv=>lhs; simp [q1,q2,q3,q3',hm,h3,h4,h5,wv,ma,dv3,w3,mb,dv9,w9,mc,cS,hw,hx,g0,r1,r2,r3,wu]),fun _=>?_⟩
               refine allA_step 6 [] (by kernel_rfl) ?_
               intro i hi
               simp only [List.mem_cons,List.not_mem_nil,or_false] at hi
               subst hi
               refine ⟨_,_,_,rfl,(by conv=>lhs; simp [q1,q2,q3,q3',hm,h3,h4,h5,wv,ma,dv3,w3,mb,dv9,w9,mc,cS,hw,hx,g0,r1,r2,r3,wu]),fun _=>?_⟩
               refine allA_end (by kernel_rfl) ?_
               exact AS.le_of rfl ⟨rfl,rfl,rfl,rfl,rfl,rfl,trivial⟩ (fun _=>rfl)
       repeat' (first | intro (hb : _ = _) | refine ZV ?_ | refine ZB tm sp ?_ | refine ZH ?_ ?_ | refine ZJ (by conv=>lhs; simp [hw]) ?_ | refine ZA ?_ ?_)
       exact ⟨⟨(k + 1,L,mInc (a,b) S,G,_),⟨hlt,k1⟩,o1,by simp [lk_st,nwB],by simp [lk_st,mapB],by simp [lk_st,h5,mapB]⟩,by dsimp only; omega,AS.le_of rfl ⟨rfl,rfl,rfl,rfl,rfl,rfl,trivial⟩ (fun _=>rfl)⟩
   · obtain ⟨e1, o1⟩ := ord_send ho (by omega) ra rb
     have cS:=sdpN_eq0 d8 a b 0 0 0 (mGet (a,b) S : Nat) 0 0 0
     rw [hd8] at cS
     generalize sndN ls ⟨a,b,0,0,0,zOb,(mGet (a,b) S : Nat),0,0,0⟩ = R at *
     obtain ⟨L,e⟩:=R
     dsimp only at e1 o1
     subst e1
     simp only [rN,zO,List.cons_append,List.nil_append] at cS
     cases hx : mIx (a,b) S 0 with
     | none =>
       obtain ⟨g0,r0,r1,r2⟩:=mrow_none hx
       rw [g0,show ((0 : Nat) : Int) = 0 from rfl] at cS
       have wu : IntKind.u64.wrap 1 = 1:=by decide
       repeat' (first | intro (hb : _ = _) | refine ZV ?_ | refine ZB (id:=6) tm sp ?_ | refine ZB (id:=7) tm sp ?_ | refine ZB (id:=8) tm sp ?_ | refine ZB (id:=9) tm sp ?_ | refine ZB (id:=10) tm sp ?_ | refine ZB (id:=11) tm sp ?_ | refine ZB (id:=12) tm sp ?_ | refine ZB (id:=13) tm sp ?_ | refine ZB (id:=14) tm sp ?_ | refine ZB (id:=15) tm sp ?_ | refine ZB (id:=16) tm sp ?_ | refine ZB (id:=17) tm sp ?_ | refine ZB (id:=18) tm sp ?_ | refine ZB (id:=19) tm sp ?_ | refine ZB (id:=20) tm sp ?_ | refine ZB (id:=21) tm sp ?_ | refine ZH ?_ ?_ | refine ZJ (by conv=>lhs; simp [q1,q2,q3,q3',hm,h3,h4,h5,wv,ma,dv3,w3,mb,dv9,w9,mc,cS,hw,hx,g0,r1,r2,wu]) ?_ | refine ZA ?_ ?_)
       apply W.regionH (id:=22) (n:=218) (ts:=[(3, .ptr 64 1 0 0),(4, .amap 432 1),(5, .amap 448 1),(28, .list 1 (l.map byte)),(29, .int .i64 l.length),(30, .int .i64 (k : Nat))]) tm sp rfl
       case ha =>
         show allA _ _ _ _ _ 7 _ _
         refine allA_step 0 [1] (by kernel_rfl) ?_
         intro i hi
         simp only [List.mem_cons,List.not_mem_nil,or_false] at hi
         rcases hi with rfl | rfl
         · refine ⟨_,_,_,rfl,(by conv=>lhs; simp [q1,q2,q3,q3',hm,h3,h4,h5,wv,ma,dv3,w3,mb,dv9,w9,mc,cS,hw,hx,g0,r0,r1,r2,wu]),fun _=>?_⟩
           refine allA_step 1 [] (by kernel_rfl) ?_
           intro i hi
           simp only [List.mem_cons,List.not_mem_nil,or_false] at hi
           subst hi
           refine ⟨_,_,_,rfl,(by conv=>lhs; simp [q1,q2,q3,q3',hm,h3,h4,h5,wv,ma,dv3,w3,mb,dv9,w9,mc,cS,hw,hx,g0,r0,r1,r2,wu]),fun _=>?_⟩
           refine allA_step 2 [4] (by kernel_rfl) ?_
           intro i hi
           simp only [List.mem_cons,List.not_mem_nil,or_false] at hi
           rcases hi with rfl | rfl
           · refine ⟨_,_,_,rfl,(by conv=>lhs; simp [q1,q2,q3,q3',hm,h3,h4,h5,wv,ma,dv3,w3,mb,dv9,w9,mc,cS,hw,hx,g0,r0,r1,r2,wu]),fun _=>?_⟩
             refine allA_step 3 [4] (by kernel_rfl) ?_
             intro i hi
             simp only [List.mem_cons,List.not_mem_nil,or_false] at hi
             rcases hi with rfl | rfl
             · refine ⟨_,_,_,rfl,(by conv=>lhs; simp [q1,q2,q3,q3',hm,h3,h4,h5,wv,ma,dv3,w3,mb,dv9,w9,mc,cS,hw,hx,g0,r0,r1,r2,wu]),fun _=>?_⟩
               refine allA_step 4 [] (by kernel_rfl) ?_
               intro i hi
               simp only [List.mem_cons,List.not_mem_nil,or_false] at hi
               subst hi
               refine ⟨_,_,_,rfl,(by conv=>lhs; simp [q1,q2,q3,q3',hm,h3,h4,h5,wv,ma,dv3,w3,mb,dv9,w9,mc,cS,hw,hx,g0,r0,r1,r2,wu]),fun _=>?_⟩
               refine allA_step 5 [] (by kernel_rfl) ?_
               intro i hi
               simp only [List.mem_cons,List.not_mem_nil,or_false] at hi
               subst hi
               refine ⟨_,_,_,rfl,(by conv=>lhs; simp [q1,q2,q3,q3',hm,h3,h4,h5,wv,ma,dv3,w3,mb,dv9,w9,mc,cS,hw,hx,g0,r0,r1,r2,wu]),fun _=>?_⟩
               refine allA_step 6 [] (by kernel_rfl) ?_
               intro i hi
               simp only [List.mem_cons,List.not_mem_nil,or_false] at hi
               subst hi
               refine ⟨_,_,_,rfl,(by conv=>lhs; simp [q1,q2,q3,q3',hm,h3,h4,h5,wv,ma,dv3,w3,mb,dv9,w9,mc,cS,hw,hx,g0,r0,r1,r2,wu]),fun _=>?_⟩
               refine allA_end (by kernel_rfl) ?_
               exact AS.le_of rfl ⟨rfl,rfl,rfl,rfl,rfl,rfl,trivial⟩ (fun _=>rfl)
             · refine ⟨_,_,_,rfl,(by conv=>lhs; simp [q1,q2,q3,q3',hm,h3,h4,h5,wv,ma,dv3,w3,mb,dv9,w9,mc,cS,hw,hx,g0,r0,r1,r2,wu]),fun _=>?_⟩
               refine allA_step 3 [5] (by kernel_rfl) ?_
               intro i hi
               simp only [List.mem_cons,List.not_mem_nil,or_false] at hi
               rcases hi with rfl | rfl
               · refine ⟨_,_,_,rfl,(by conv=>lhs; simp [q1,q2,q3,q3',hm,h3,h4,h5,wv,ma,dv3,w3,mb,dv9,w9,mc,cS,hw,hx,g0,r0,r1,r2,wu]),fun _=>?_⟩
                 refine allA_step 5 [] (by kernel_rfl) ?_
                 intro i hi
                 simp only [List.mem_cons,List.not_mem_nil,or_false] at hi
                 subst hi
                 refine ⟨_,_,_,rfl,(by conv=>lhs; simp [q1,q2,q3,q3',hm,h3,h4,h5,wv,ma,dv3,w3,mb,dv9,w9,mc,cS,hw,hx,g0,r0,r1,r2,wu]),fun _=>?_⟩
                 refine allA_step 6 [] (by kernel_rfl) ?_
                 intro i hi
                 simp only [List.mem_cons,List.not_mem_nil,or_false] at hi
                 subst hi
                 refine ⟨_,_,_,rfl,(by conv=>lhs; simp [q1,q2,q3,q3',hm,h3,h4,h5,wv,ma,dv3,w3,mb,dv9,w9,mc,cS,hw,hx,g0,r0,r1,r2,wu]),fun _=>?_⟩
                 refine allA_end (by kernel_rfl) ?_
                 exact AS.le_of rfl ⟨rfl,rfl,rfl,rfl,rfl,rfl,trivial⟩ (fun _=>rfl)
               · refine ⟨_,_,_,rfl,(by conv=>lhs; simp [q1,q2,q3,q3',hm,h3,h4,h5,wv,ma,dv3,w3,mb,dv9,w9,mc,cS,hw,hx,g0,r0,r1,r2,wu]),fun _=>?_⟩
                 refine allA_step 3 [] (by kernel_rfl) ?_
                 intro i hi
                 simp only [List.mem_cons,List.not_mem_nil,or_false] at hi
                 subst hi
                 refine ⟨_,_,_,rfl,(by conv=>lhs; simp [q1,q2,q3,q3',hm,h3,h4,h5,wv,ma,dv3,w3,mb,dv9,w9,mc,cS,hw,hx,g0,r0,r1,r2,wu]),fun _=>?_⟩
                 refine allA_step 6 [] (by kernel_rfl) ?_
                 intro i hi
                 simp only [List.mem_cons,List.not_mem_nil,or_false] at hi
                 subst hi
                 refine ⟨_,_,_,rfl,(by conv=>lhs; simp [q1,q2,q3,q3',hm,h3,h4,h5,wv,ma,dv3,w3,mb,dv9,w9,mc,cS,hw,hx,g0,r0,r1,r2,wu]),fun _=>?_⟩
                 refine allA_end (by kernel_rfl) ?_
                 exact AS.le_of rfl ⟨rfl,rfl,rfl,rfl,rfl,rfl,trivial⟩ (fun _=>rfl)
           · refine ⟨_,_,_,rfl,(by conv=>lhs; simp [q1,q2,q3,q3',hm,h3,h4,h5,wv,ma,dv3,w3,mb,dv9,w9,mc,cS,hw,hx,g0,r0,r1,r2,wu]),fun _=>?_⟩
             refine allA_step 2 [5] (by kernel_rfl) ?_
             intro i hi
             simp only [List.mem_cons,List.not_mem_nil,or_false] at hi
             rcases hi with rfl | rfl
             · refine ⟨_,_,_,rfl,(by conv=>lhs; simp [q1,q2,q3,q3',hm,h3,h4,h5,wv,ma,dv3,w3,mb,dv9,w9,mc,cS,hw,hx,g0,r0,r1,r2,wu]),fun _=>?_⟩
               refine allA_step 3 [5] (by kernel_rfl) ?_
               intro i hi
               simp only [List.mem_cons,List.not_mem_nil,or_false] at hi
               rcases hi with rfl | rfl
               · refine ⟨_,_,_,rfl,(by conv=>lhs; simp [q1,q2,q3,q3',hm,h3,h4,h5,wv,ma,dv3,w3,mb,dv9,w9,mc,cS,hw,hx,g0,r0,r1,r2,wu]),fun _=>?_⟩
                 refine allA_step 5 [] (by kernel_rfl) ?_
                 intro i hi
                 simp only [List.mem_cons,List.not_mem_nil,or_false] at hi
                 subst hi
                 refine ⟨_,_,_,rfl,(by conv=>lhs; simp [q1,q2,q3,q3',hm,h3,h4,h5,wv,ma,dv3,w3,mb,dv9,w9,mc,cS,hw,hx,g0,r0,r1,r2,wu]),fun _=>?_⟩
                 refine allA_step 6 [] (by kernel_rfl) ?_
                 intro i hi
                 simp only [List.mem_cons,List.not_mem_nil,or_false] at hi
                 subst hi
                 refine ⟨_,_,_,rfl,(by conv=>lhs; simp [q1,q2,q3,q3',hm,h3,h4,h5,wv,ma,dv3,w3,mb,dv9,w9,mc,cS,hw,hx,g0,r0,r1,r2,wu]),fun _=>?_⟩
                 refine allA_end (by kernel_rfl) ?_
                 exact AS.le_of rfl ⟨rfl,rfl,rfl,rfl,rfl,rfl,trivial⟩ (fun _=>rfl)
               · refine ⟨_,_,_,rfl,(by conv=>lhs; simp [q1,q2,q3,q3',hm,h3,h4,h5,wv,ma,dv3,w3,mb,dv9,w9,mc,cS,hw,hx,g0,r0,r1,r2,wu]),fun _=>?_⟩
                 refine allA_step 3 [] (by kernel_rfl) ?_
                 intro i hi
                 simp only [List.mem_cons,List.not_mem_nil,or_false] at hi
                 subst hi
                 refine ⟨_,_,_,rfl,(by conv=>lhs; simp [q1,q2,q3,q3',hm,h3,h4,h5,wv,ma,dv3,w3,mb,dv9,w9,mc,cS,hw,hx,g0,r0,r1,r2,wu]),fun _=>?_⟩
                 refine allA_step 6 [] (by kernel_rfl) ?_
                 intro i hi
                 simp only [List.mem_cons,List.not_mem_nil,or_false] at hi
                 subst hi
                 refine ⟨_,_,_,rfl,(by conv=>lhs; simp [q1,q2,q3,q3',hm,h3,h4,h5,wv,ma,dv3,w3,mb,dv9,w9,mc,cS,hw,hx,g0,r0,r1,r2,wu]),fun _=>?_⟩
                 refine allA_end (by kernel_rfl) ?_
                 exact AS.le_of rfl ⟨rfl,rfl,rfl,rfl,rfl,rfl,trivial⟩ (fun _=>rfl)
             · refine ⟨_,_,_,rfl,(by conv=>lhs; simp [q1,q2,q3,q3',hm,h3,h4,h5,wv,ma,dv3,w3,mb,dv9,w9,mc,cS,hw,hx,g0,r0,r1,r2,wu]),fun _=>?_⟩
               refine allA_step 2 [] (by kernel_rfl) ?_
               intro i hi
               simp only [List.mem_cons,List.not_mem_nil,or_false] at hi
               subst hi
               refine ⟨_,_,_,rfl,(by conv=>lhs; simp [q1,q2,q3,q3',hm,h3,h4,h5,wv,ma,dv3,w3,mb,dv9,w9,mc,cS,hw,hx,g0,r0,r1,r2,wu]),fun _=>?_⟩
               refine allA_step 3 [] (by kernel_rfl) ?_
               intro i hi
               simp only [List.mem_cons,List.not_mem_nil,or_false] at hi
               subst hi
               refine ⟨_,_,_,rfl,(by conv=>lhs; simp [q1,q2,q3,q3',hm,h3,h4,h5,wv,ma,dv3,w3,mb,dv9,w9,mc,cS,hw,hx,g0,r0,r1,r2,wu]),fun _=>?_⟩
               refine allA_step 6 [] (by kernel_rfl) ?_
               intro i hi
               simp only [List.mem_cons,List.not_mem_nil,or_false] at hi
               subst hi
               refine ⟨_,_,_,rfl,(by conv=>lhs; simp [q1,q2,q3,q3',hm,h3,h4,h5,wv,ma,dv3,w3,mb,dv9,w9,mc,cS,hw,hx,g0,r0,r1,r2,wu]),fun _=>?_⟩
               refine allA_end (by kernel_rfl) ?_
               exact AS.le_of rfl ⟨rfl,rfl,rfl,rfl,rfl,rfl,trivial⟩ (fun _=>rfl)
         · refine ⟨_,_,_,rfl,(by conv=>lhs; simp [q1,q2,q3,q3',hm,h3,h4,h5,wv,ma,dv3,w3,mb,dv9,w9,mc,cS,hw,hx,g0,r0,r1,r2,wu]),fun _=>?_⟩
           refine allA_step 0 [] (by kernel_rfl) ?_
           intro i hi
           simp only [List.mem_cons,List.not_mem_nil,or_false] at hi
           subst hi
           refine ⟨_,_,_,rfl,(by conv=>lhs; simp [q1,q2,q3,q3',hm,h3,h4,h5,wv,ma,dv3,w3,mb,dv9,w9,mc,cS,hw,hx,g0,r0,r1,r2,wu]),fun _=>?_⟩
           refine allA_step 2 [4] (by kernel_rfl) ?_
           intro i hi
           simp only [List.mem_cons,List.not_mem_nil,or_false] at hi
           rcases hi with rfl | rfl
           · refine ⟨_,_,_,rfl,(by conv=>lhs; simp [q1,q2,q3,q3',hm,h3,h4,h5,wv,ma,dv3,w3,mb,dv9,w9,mc,cS,hw,hx,g0,r0,r1,r2,wu]),fun _=>?_⟩
             refine allA_step 3 [4] (by kernel_rfl) ?_
             intro i hi
             simp only [List.mem_cons,List.not_mem_nil,or_false] at hi
             rcases hi with rfl | rfl
             · refine ⟨_,_,_,rfl,(by conv=>lhs; simp [q1,q2,q3,q3',hm,h3,h4,h5,wv,ma,dv3,w3,mb,dv9,w9,mc,cS,hw,hx,g0,r0,r1,r2,wu]),fun _=>?_⟩
               refine allA_step 4 [] (by kernel_rfl) ?_
               intro i hi
               simp only [List.mem_cons,List.not_mem_nil,or_false] at hi
               subst hi
               refine ⟨_,_,_,rfl,(by conv=>lhs; simp [q1,q2,q3,q3',hm,h3,h4,h5,wv,ma,dv3,w3,mb,dv9,w9,mc,cS,hw,hx,g0,r0,r1,r2,wu]),fun _=>?_⟩
               refine allA_step 5 [] (by kernel_rfl) ?_
               intro i hi
               simp only [List.mem_cons,List.not_mem_nil,or_false] at hi
               subst hi
               refine ⟨_,_,_,rfl,(by conv=>lhs; simp [q1,q2,q3,q3',hm,h3,h4,h5,wv,ma,dv3,w3,mb,dv9,w9,mc,cS,hw,hx,g0,r0,r1,r2,wu]),fun _=>?_⟩
               refine allA_step 6 [] (by kernel_rfl) ?_
               intro i hi
               simp only [List.mem_cons,List.not_mem_nil,or_false] at hi
               subst hi
               refine ⟨_,_,_,rfl,(by conv=>lhs; simp [q1,q2,q3,q3',hm,h3,h4,h5,wv,ma,dv3,w3,mb,dv9,w9,mc,cS,hw,hx,g0,r0,r1,r2,wu]),fun _=>?_⟩
               refine allA_end (by kernel_rfl) ?_
               exact AS.le_of rfl ⟨rfl,rfl,rfl,rfl,rfl,rfl,trivial⟩ (fun _=>rfl)
             · refine ⟨_,_,_,rfl,(by conv=>lhs; simp [q1,q2,q3,q3',hm,h3,h4,h5,wv,ma,dv3,w3,mb,dv9,w9,mc,cS,hw,hx,g0,r0,r1,r2,wu]),fun _=>?_⟩
               refine allA_step 3 [5] (by kernel_rfl) ?_
               intro i hi
               simp only [List.mem_cons,List.not_mem_nil,or_false] at hi
               rcases hi with rfl | rfl
               · refine ⟨_,_,_,rfl,(by conv=>lhs; simp [q1,q2,q3,q3',hm,h3,h4,h5,wv,ma,dv3,w3,mb,dv9,w9,mc,cS,hw,hx,g0,r0,r1,r2,wu]),fun _=>?_⟩
                 refine allA_step 5 [] (by kernel_rfl) ?_
                 intro i hi
                 simp only [List.mem_cons,List.not_mem_nil,or_false] at hi
                 subst hi
                 refine ⟨_,_,_,rfl,(by conv=>lhs; simp [q1,q2,q3,q3',hm,h3,h4,h5,wv,ma,dv3,w3,mb,dv9,w9,mc,cS,hw,hx,g0,r0,r1,r2,wu]),fun _=>?_⟩
                 refine allA_step 6 [] (by kernel_rfl) ?_
                 intro i hi
                 simp only [List.mem_cons,List.not_mem_nil,or_false] at hi
                 subst hi
                 refine ⟨_,_,_,rfl,(by conv=>lhs; simp [q1,q2,q3,q3',hm,h3,h4,h5,wv,ma,dv3,w3,mb,dv9,w9,mc,cS,hw,hx,g0,r0,r1,r2,wu]),fun _=>?_⟩
                 refine allA_end (by kernel_rfl) ?_
                 exact AS.le_of rfl ⟨rfl,rfl,rfl,rfl,rfl,rfl,trivial⟩ (fun _=>rfl)
               · refine ⟨_,_,_,rfl,(by conv=>lhs; simp [q1,q2,q3,q3',hm,h3,h4,h5,wv,ma,dv3,w3,mb,dv9,w9,mc,cS,hw,hx,g0,r0,r1,r2,wu]),fun _=>?_⟩
                 refine allA_step 3 [] (by kernel_rfl) ?_
                 intro i hi
                 simp only [List.mem_cons,List.not_mem_nil,or_false] at hi
                 subst hi
                 refine ⟨_,_,_,rfl,(by conv=>lhs; simp [q1,q2,q3,q3',hm,h3,h4,h5,wv,ma,dv3,w3,mb,dv9,w9,mc,cS,hw,hx,g0,r0,r1,r2,wu]),fun _=>?_⟩
                 refine allA_step 6 [] (by kernel_rfl) ?_
                 intro i hi
                 simp only [List.mem_cons,List.not_mem_nil,or_false] at hi
                 subst hi
                 refine ⟨_,_,_,rfl,(by conv=>lhs; simp [q1,q2,q3,q3',hm,h3,h4,h5,wv,ma,dv3,w3,mb,dv9,w9,mc,cS,hw,hx,g0,r0,r1,r2,wu]),fun _=>?_⟩
                 refine allA_end (by kernel_rfl) ?_
                 exact AS.le_of rfl ⟨rfl,rfl,rfl,rfl,rfl,rfl,trivial⟩ (fun _=>rfl)
           · refine ⟨_,_,_,rfl,(by conv=>lhs; simp [q1,q2,q3,q3',hm,h3,h4,h5,wv,ma,dv3,w3,mb,dv9,w9,mc,cS,hw,hx,g0,r0,r1,r2,wu]),fun _=>?_⟩
             refine allA_step 2 [5] (by kernel_rfl) ?_
             intro i hi
             simp only [List.mem_cons,List.not_mem_nil,or_false] at hi
             rcases hi with rfl | rfl
             · refine ⟨_,_,_,rfl,(by conv=>lhs; simp [q1,q2,q3,q3',hm,h3,h4,h5,wv,ma,dv3,w3,mb,dv9,w9,mc,cS,hw,hx,g0,r0,r1,r2,wu]),fun _=>?_⟩
               refine allA_step 3 [5] (by kernel_rfl) ?_
               intro i hi
               simp only [List.mem_cons,List.not_mem_nil,or_false] at hi
               rcases hi with rfl | rfl
               · refine ⟨_,_,_,rfl,(by conv=>lhs; simp [q1,q2,q3,q3',hm,h3,h4,h5,wv,ma,dv3,w3,mb,dv9,w9,mc,cS,hw,hx,g0,r0,r1,r2,wu]),fun _=>?_⟩
                 refine allA_step 5 [] (by kernel_rfl) ?_
                 intro i hi
                 simp only [List.mem_cons,List.not_mem_nil,or_false] at hi
                 subst hi
                 refine ⟨_,_,_,rfl,(by conv=>lhs; simp [q1,q2,q3,q3',hm,h3,h4,h5,wv,ma,dv3,w3,mb,dv9,w9,mc,cS,hw,hx,g0,r0,r1,r2,wu]),fun _=>?_⟩
                 refine allA_step 6 [] (by kernel_rfl) ?_
                 intro i hi
                 simp only [List.mem_cons,List.not_mem_nil,or_false] at hi
                 subst hi
                 refine ⟨_,_,_,rfl,(by conv=>lhs; simp [q1,q2,q3,q3',hm,h3,h4,h5,wv,ma,dv3,w3,mb,dv9,w9,mc,cS,hw,hx,g0,r0,r1,r2,wu]),fun _=>?_⟩
                 refine allA_end (by kernel_rfl) ?_
                 exact AS.le_of rfl ⟨rfl,rfl,rfl,rfl,rfl,rfl,trivial⟩ (fun _=>rfl)
               · refine ⟨_,_,_,rfl,(by conv=>lhs; simp [q1,q2,q3,q3',hm,h3,h4,h5,wv,ma,dv3,w3,mb,dv9,w9,mc,cS,hw,hx,g0,r0,r1,r2,wu]),fun _=>?_⟩
                 refine allA_step 3 [] (by kernel_rfl) ?_
                 intro i hi
                 simp only [List.mem_cons,List.not_mem_nil,or_false] at hi
                 subst hi
                 refine ⟨_,_,_,rfl,(by conv=>lhs; simp [q1,q2,q3,q3',hm,h3,h4,h5,wv,ma,dv3,w3,mb,dv9,w9,mc,cS,hw,hx,g0,r0,r1,r2,wu]),fun _=>?_⟩
                 refine allA_step 6 [] (by kernel_rfl) ?_
                 intro i hi
                 simp only [List.mem_cons,List.not_mem_nil,or_false] at hi
                 subst hi
                 refine ⟨_,_,_,rfl,(by conv=>lhs; simp [q1,q2,q3,q3',hm,h3,h4,h5,wv,ma,dv3,w3,mb,dv9,w9,mc,cS,hw,hx,g0,r0,r1,r2,wu]),fun _=>?_⟩
                 refine allA_end (by kernel_rfl) ?_
                 exact AS.le_of rfl ⟨rfl,rfl,rfl,rfl,rfl,rfl,trivial⟩ (fun _=>rfl)
             · refine ⟨_,_,_,rfl,(by conv=>lhs; simp [q1,q2,q3,q3',hm,h3,h4,h5,wv,ma,dv3,w3,mb,dv9,w9,mc,cS,hw,hx,g0,r0,r1,r2,wu]),fun _=>?_⟩
               refine allA_step 2 [] (by kernel_rfl) ?_
               intro i hi
               simp only [List.mem_cons,List.not_mem_nil,or_false] at hi
               subst hi
               refine ⟨_,_,_,rfl,(by conv=>lhs; simp [q1,q2,q3,q3',hm,h3,h4,h5,wv,ma,dv3,w3,mb,dv9,w9,mc,cS,hw,hx,g0,r0,r1,r2,wu]),fun _=>?_⟩
               refine allA_step 3 [] (by kernel_rfl) ?_
               intro i hi
               simp only [List.mem_cons,List.not_mem_nil,or_false] at hi
               subst hi
               refine ⟨_,_,_,rfl,(by conv=>lhs; simp [q1,q2,q3,q3',hm,h3,h4,h5,wv,ma,dv3,w3,mb,dv9,w9,mc,cS,hw,hx,g0,r0,r1,r2,wu]),fun _=>?_⟩
               refine allA_step 6 [] (by kernel_rfl) ?_
               intro i hi
               simp only [List.mem_cons,List.not_mem_nil,or_false] at hi
               subst hi
               refine ⟨_,_,_,rfl,(by conv=>lhs; simp [q1,q2,q3,q3',hm,h3,h4,h5,wv,ma,dv3,w3,mb,dv9,w9,mc,cS,hw,hx,g0,r0,r1,r2,wu]),fun _=>?_⟩
               refine allA_end (by kernel_rfl) ?_
               exact AS.le_of rfl ⟨rfl,rfl,rfl,rfl,rfl,rfl,trivial⟩ (fun _=>rfl)
       repeat' (first | intro (hb : _ = _) | refine ZV ?_ | refine ZB tm sp ?_ | refine ZH ?_ ?_ | refine ZJ (by conv=>lhs; simp [hw]) ?_ | refine ZA ?_ ?_)
       exact ⟨⟨(k + 1,L,mInc (a,b) S,G,_),⟨hlt,k1⟩,o1,by simp [lk_st,nwB],by simp [lk_st,mapB],by simp [lk_st,h5,mapB]⟩,by dsimp only; omega,AS.le_of rfl ⟨rfl,rfl,rfl,rfl,rfl,rfl,trivial⟩ (fun _=>rfl)⟩
     | some x =>
       obtain ⟨j,n⟩:=x
       obtain ⟨g0,r1,r2,r3⟩:=mrow_some hx
       rw [g0] at cS hb
       have wu : IntKind.u64.wrap ((n : Int) + 1) = (n : Int) + 1:=wu64 (by omega) (by omega)
       repeat' (first | intro (hb : _ = _) | refine ZV ?_ | refine ZB (id:=6) tm sp ?_ | refine ZB (id:=7) tm sp ?_ | refine ZB (id:=8) tm sp ?_ | refine ZB (id:=9) tm sp ?_ | refine ZB (id:=10) tm sp ?_ | refine ZB (id:=11) tm sp ?_ | refine ZB (id:=12) tm sp ?_ | refine ZB (id:=13) tm sp ?_ | refine ZB (id:=14) tm sp ?_ | refine ZB (id:=15) tm sp ?_ | refine ZB (id:=16) tm sp ?_ | refine ZB (id:=17) tm sp ?_ | refine ZB (id:=18) tm sp ?_ | refine ZB (id:=19) tm sp ?_ | refine ZB (id:=20) tm sp ?_ | refine ZB (id:=21) tm sp ?_ | refine ZH ?_ ?_ | refine ZJ (by conv=>lhs; simp [q1,q2,q3,q3',hm,h3,h4,h5,wv,ma,dv3,w3,mb,dv9,w9,mc,cS,hw,hx,g0,r1,r2,r3,wu]) ?_ | refine ZA ?_ ?_)
       apply W.regionH (id:=22) (n:=218) (ts:=[(3, .ptr 64 1 0 0),(4, .amap 432 1),(5, .amap 448 1),(28, .list 1 (l.map byte)),(29, .int .i64 l.length),(30, .int .i64 (k : Nat))]) tm sp rfl
       case ha =>
         show allA _ _ _ _ _ 7 _ _
         refine allA_step 0 [1] (by kernel_rfl) ?_
         intro i hi
         simp only [List.mem_cons,List.not_mem_nil,or_false] at hi
         rcases hi with rfl | rfl
         · refine ⟨_,_,_,rfl,(by conv=>lhs; simp [q1,q2,q3,q3',hm,h3,h4,h5,wv,ma,dv3,w3,mb,dv9,w9,mc,cS,hw,hx,g0,r1,r2,r3,wu]),fun _=>?_⟩
           refine allA_step 1 [] (by kernel_rfl) ?_
           intro i hi
           simp only [List.mem_cons,List.not_mem_nil,or_false] at hi
           subst hi
           refine ⟨_,_,_,rfl,(by conv=>lhs; simp [q1,q2,q3,q3',hm,h3,h4,h5,wv,ma,dv3,w3,mb,dv9,w9,mc,cS,hw,hx,g0,r1,r2,r3,wu]),fun _=>?_⟩
           refine allA_step 2 [4] (by kernel_rfl) ?_
           intro i hi
           simp only [List.mem_cons,List.not_mem_nil,or_false] at hi
           rcases hi with rfl | rfl
           · refine ⟨_,_,_,rfl,(by conv=>lhs; simp [q1,q2,q3,q3',hm,h3,h4,h5,wv,ma,dv3,w3,mb,dv9,w9,mc,cS,hw,hx,g0,r1,r2,r3,wu]),fun _=>?_⟩
             refine allA_step 3 [4] (by kernel_rfl) ?_
             intro i hi
             simp only [List.mem_cons,List.not_mem_nil,or_false] at hi
             rcases hi with rfl | rfl
             · refine ⟨_,_,_,rfl,(by conv=>lhs; simp [q1,q2,q3,q3',hm,h3,h4,h5,wv,ma,dv3,w3,mb,dv9,w9,mc,cS,hw,hx,g0,r1,r2,r3,wu]),fun _=>?_⟩
               refine allA_step 4 [] (by kernel_rfl) ?_
               intro i hi
               simp only [List.mem_cons,List.not_mem_nil,or_false] at hi
               subst hi
               refine ⟨_,_,_,rfl,(by conv=>lhs; simp [q1,q2,q3,q3',hm,h3,h4,h5,wv,ma,dv3,w3,mb,dv9,w9,mc,cS,hw,hx,g0,r1,r2,r3,wu]),fun _=>?_⟩
               refine allA_step 5 [] (by kernel_rfl) ?_
               intro i hi
               simp only [List.mem_cons,List.not_mem_nil,or_false] at hi
               subst hi
               refine ⟨_,_,_,rfl,(by conv=>lhs; simp [q1,q2,q3,q3',hm,h3,h4,h5,wv,ma,dv3,w3,mb,dv9,w9,mc,cS,hw,hx,g0,r1,r2,r3,wu]),fun _=>?_⟩
               refine allA_step 6 [] (by kernel_rfl) ?_
               intro i hi
               simp only [List.mem_cons,List.not_mem_nil,or_false] at hi
               subst hi
               refine ⟨_,_,_,rfl,(by conv=>lhs; simp [q1,q2,q3,q3',hm,h3,h4,h5,wv,ma,dv3,w3,mb,dv9,w9,mc,cS,hw,hx,g0,r1,r2,r3,wu]),fun _=>?_⟩
               refine allA_end (by kernel_rfl) ?_
               exact AS.le_of rfl ⟨rfl,rfl,rfl,rfl,rfl,rfl,trivial⟩ (fun _=>rfl)
             · refine ⟨_,_,_,rfl,(by conv=>lhs; simp [q1,q2,q3,q3',hm,h3,h4,h5,wv,ma,dv3,w3,mb,dv9,w9,mc,cS,hw,hx,g0,r1,r2,r3,wu]),fun _=>?_⟩
               refine allA_step 3 [5] (by kernel_rfl) ?_
               intro i hi
               simp only [List.mem_cons,List.not_mem_nil,or_false] at hi
               rcases hi with rfl | rfl
               · refine ⟨_,_,_,rfl,(by conv=>lhs; simp [q1,q2,q3,q3',hm,h3,h4,h5,wv,ma,dv3,w3,mb,dv9,w9,mc,cS,hw,hx,g0,r1,r2,r3,wu]),fun _=>?_⟩
                 refine allA_step 5 [] (by kernel_rfl) ?_
                 intro i hi
                 simp only [List.mem_cons,List.not_mem_nil,or_false] at hi
                 subst hi
                 refine ⟨_,_,_,rfl,(by conv=>lhs; simp [q1,q2,q3,q3',hm,h3,h4,h5,wv,ma,dv3,w3,mb,dv9,w9,mc,cS,hw,hx,g0,r1,r2,r3,wu]),fun _=>?_⟩
                 refine allA_step 6 [] (by kernel_rfl) ?_
                 intro i hi
                 simp only [List.mem_cons,List.not_mem_nil,or_false] at hi
                 subst hi
                 refine ⟨_,_,_,rfl,(by conv=>lhs; simp [q1,q2,q3,q3',hm,h3,h4,h5,wv,ma,dv3,w3,mb,dv9,w9,mc,cS,hw,hx,g0,r1,r2,r3,wu]),fun _=>?_⟩
                 refine allA_end (by kernel_rfl) ?_
                 exact AS.le_of rfl ⟨rfl,rfl,rfl,rfl,rfl,rfl,trivial⟩ (fun _=>rfl)
               · refine ⟨_,_,_,rfl,(by conv=>lhs; simp [q1,q2,q3,q3',hm,h3,h4,h5,wv,ma,dv3,w3,mb,dv9,w9,mc,cS,hw,hx,g0,r1,r2,r3,wu]),fun _=>?_⟩
                 refine allA_step 3 [] (by kernel_rfl) ?_
                 intro i hi
                 simp only [List.mem_cons,List.not_mem_nil,or_false] at hi
                 subst hi
                 refine ⟨_,_,_,rfl,(by conv=>lhs; simp [q1,q2,q3,q3',hm,h3,h4,h5,wv,ma,dv3,w3,mb,dv9,w9,mc,cS,hw,hx,g0,r1,r2,r3,wu]),fun _=>?_⟩
                 refine allA_step 6 [] (by kernel_rfl) ?_
                 intro i hi
                 simp only [List.mem_cons,List.not_mem_nil,or_false] at hi
                 subst hi
                 refine ⟨_,_,_,rfl,(by conv=>lhs; simp [q1,q2,q3,q3',hm,h3,h4,h5,wv,ma,dv3,w3,mb,dv9,w9,mc,cS,hw,hx,g0,r1,r2,r3,wu]),fun _=>?_⟩
                 refine allA_end (by kernel_rfl) ?_
                 exact AS.le_of rfl ⟨rfl,rfl,rfl,rfl,rfl,rfl,trivial⟩ (fun _=>rfl)
           · refine ⟨_,_,_,rfl,(by conv=>lhs; simp [q1,q2,q3,q3',hm,h3,h4,h5,wv,ma,dv3,w3,mb,dv9,w9,mc,cS,hw,hx,g0,r1,r2,r3,wu]),fun _=>?_⟩
             refine allA_step 2 [5] (by kernel_rfl) ?_
             intro i hi
             simp only [List.mem_cons,List.not_mem_nil,or_false] at hi
             rcases hi with rfl | rfl
             · refine ⟨_,_,_,rfl,(by conv=>lhs; simp [q1,q2,q3,q3',hm,h3,h4,h5,wv,ma,dv3,w3,mb,dv9,w9,mc,cS,hw,hx,g0,r1,r2,r3,wu]),fun _=>?_⟩
               refine allA_step 3 [5] (by kernel_rfl) ?_
               intro i hi
               simp only [List.mem_cons,List.not_mem_nil,or_false] at hi
               rcases hi with rfl | rfl
               · refine ⟨_,_,_,rfl,(by conv=>lhs; simp [q1,q2,q3,q3',hm,h3,h4,h5,wv,ma,dv3,w3,mb,dv9,w9,mc,cS,hw,hx,g0,r1,r2,r3,wu]),fun _=>?_⟩
                 refine allA_step 5 [] (by kernel_rfl) ?_
                 intro i hi
                 simp only [List.mem_cons,List.not_mem_nil,or_false] at hi
                 subst hi
                 refine ⟨_,_,_,rfl,(by conv=>lhs; simp [q1,q2,q3,q3',hm,h3,h4,h5,wv,ma,dv3,w3,mb,dv9,w9,mc,cS,hw,hx,g0,r1,r2,r3,wu]),fun _=>?_⟩
                 refine allA_step 6 [] (by kernel_rfl) ?_
                 intro i hi
                 simp only [List.mem_cons,List.not_mem_nil,or_false] at hi
                 subst hi
                 refine ⟨_,_,_,rfl,(by conv=>lhs; simp [q1,q2,q3,q3',hm,h3,h4,h5,wv,ma,dv3,w3,mb,dv9,w9,mc,cS,hw,hx,g0,r1,r2,r3,wu]),fun _=>?_⟩
                 refine allA_end (by kernel_rfl) ?_
                 exact AS.le_of rfl ⟨rfl,rfl,rfl,rfl,rfl,rfl,trivial⟩ (fun _=>rfl)
               · refine ⟨_,_,_,rfl,(by conv=>lhs; simp [q1,q2,q3,q3',hm,h3,h4,h5,wv,ma,dv3,w3,mb,dv9,w9,mc,cS,hw,hx,g0,r1,r2,r3,wu]),fun _=>?_⟩
                 refine allA_step 3 [] (by kernel_rfl) ?_
                 intro i hi
                 simp only [List.mem_cons,List.not_mem_nil,or_false] at hi
                 subst hi
                 refine ⟨_,_,_,rfl,(by conv=>lhs; simp [q1,q2,q3,q3',hm,h3,h4,h5,wv,ma,dv3,w3,mb,dv9,w9,mc,cS,hw,hx,g0,r1,r2,r3,wu]),fun _=>?_⟩
                 refine allA_step 6 [] (by kernel_rfl) ?_
                 intro i hi
                 simp only [List.mem_cons,List.not_mem_nil,or_false] at hi
                 subst hi
                 refine ⟨_,_,_,rfl,(by conv=>lhs; simp [q1,q2,q3,q3',hm,h3,h4,h5,wv,ma,dv3,w3,mb,dv9,w9,mc,cS,hw,hx,g0,r1,r2,r3,wu]),fun _=>?_⟩
                 refine allA_end (by kernel_rfl) ?_
                 exact AS.le_of rfl ⟨rfl,rfl,rfl,rfl,rfl,rfl,trivial⟩ (fun _=>rfl)
             · refine ⟨_,_,_,rfl,(by conv=>lhs; simp [q1,q2,q3,q3',hm,h3,h4,h5,wv,ma,dv3,w3,mb,dv9,w9,mc,cS,hw,hx,g0,r1,r2,r3,wu]),fun _=>?_⟩
               refine allA_step 2 [] (by kernel_rfl) ?_
               intro i hi
               simp only [List.mem_cons,List.not_mem_nil,or_false] at hi
               subst hi
               refine ⟨_,_,_,rfl,(by conv=>lhs; simp [q1,q2,q3,q3',hm,h3,h4,h5,wv,ma,dv3,w3,mb,dv9,w9,mc,cS,hw,hx,g0,r1,r2,r3,wu]),fun _=>?_⟩
               refine allA_step 3 [] (by kernel_rfl) ?_
               intro i hi
               simp only [List.mem_cons,List.not_mem_nil,or_false] at hi
               subst hi
               refine ⟨_,_,_,rfl,(by conv=>lhs; simp [q1,q2,q3,q3',hm,h3,h4,h5,wv,ma,dv3,w3,mb,dv9,w9,mc,cS,hw,hx,g0,r1,r2,r3,wu]),fun _=>?_⟩
               refine allA_step 6 [] (by kernel_rfl) ?_
               intro i hi
               simp only [List.mem_cons,List.not_mem_nil,or_false] at hi
               subst hi
               refine ⟨_,_,_,rfl,(by conv=>lhs; simp [q1,q2,q3,q3',hm,h3,h4,h5,wv,ma,dv3,w3,mb,dv9,w9,mc,cS,hw,hx,g0,r1,r2,r3,wu]),fun _=>?_⟩
               refine allA_end (by kernel_rfl) ?_
               exact AS.le_of rfl ⟨rfl,rfl,rfl,rfl,rfl,rfl,trivial⟩ (fun _=>rfl)
         · refine ⟨_,_,_,rfl,(by conv=>lhs; simp [q1,q2,q3,q3',hm,h3,h4,h5,wv,ma,dv3,w3,mb,dv9,w9,mc,cS,hw,hx,g0,r1,r2,r3,wu]),fun _=>?_⟩
           refine allA_step 0 [] (by kernel_rfl) ?_
           intro i hi
           simp only [List.mem_cons,List.not_mem_nil,or_false] at hi
           subst hi
           refine ⟨_,_,_,rfl,(by conv=>lhs; simp [q1,q2,q3,q3',hm,h3,h4,h5,wv,ma,dv3,w3,mb,dv9,w9,mc,cS,hw,hx,g0,r1,r2,r3,wu]),fun _=>?_⟩
           refine allA_step 2 [4] (by kernel_rfl) ?_
           intro i hi
           simp only [List.mem_cons,List.not_mem_nil,or_false] at hi
           rcases hi with rfl | rfl
           · refine ⟨_,_,_,rfl,(by conv=>lhs; simp [q1,q2,q3,q3',hm,h3,h4,h5,wv,ma,dv3,w3,mb,dv9,w9,mc,cS,hw,hx,g0,r1,r2,r3,wu]),fun _=>?_⟩
             refine allA_step 3 [4] (by kernel_rfl) ?_
             intro i hi
             simp only [List.mem_cons,List.not_mem_nil,or_false] at hi
             rcases hi with rfl | rfl
             · refine ⟨_,_,_,rfl,(by conv=>lhs; simp [q1,q2,q3,q3',hm,h3,h4,h5,wv,ma,dv3,w3,mb,dv9,w9,mc,cS,hw,hx,g0,r1,r2,r3,wu]),fun _=>?_⟩
               refine allA_step 4 [] (by kernel_rfl) ?_
               intro i hi
               simp only [List.mem_cons,List.not_mem_nil,or_false] at hi
               subst hi
               refine ⟨_,_,_,rfl,(by conv=>lhs; simp [q1,q2,q3,q3',hm,h3,h4,h5,wv,ma,dv3,w3,mb,dv9,w9,mc,cS,hw,hx,g0,r1,r2,r3,wu]),fun _=>?_⟩
               refine allA_step 5 [] (by kernel_rfl) ?_
               intro i hi
               simp only [List.mem_cons,List.not_mem_nil,or_false] at hi
               subst hi
               refine ⟨_,_,_,rfl,(by conv=>lhs; simp [q1,q2,q3,q3',hm,h3,h4,h5,wv,ma,dv3,w3,mb,dv9,w9,mc,cS,hw,hx,g0,r1,r2,r3,wu]),fun _=>?_⟩
               refine allA_step 6 [] (by kernel_rfl) ?_
               intro i hi
               simp only [List.mem_cons,List.not_mem_nil,or_false] at hi
               subst hi
               refine ⟨_,_,_,rfl,(by conv=>lhs; simp [q1,q2,q3,q3',hm,h3,h4,h5,wv,ma,dv3,w3,mb,dv9,w9,mc,cS,hw,hx,g0,r1,r2,r3,wu]),fun _=>?_⟩
               refine allA_end (by kernel_rfl) ?_
               exact AS.le_of rfl ⟨rfl,rfl,rfl,rfl,rfl,rfl,trivial⟩ (fun _=>rfl)
             · refine ⟨_,_,_,rfl,(by conv=>lhs; simp [q1,q2,q3,q3',hm,h3,h4,h5,wv,ma,dv3,w3,mb,dv9,w9,mc,cS,hw,hx,g0,r1,r2,r3,wu]),fun _=>?_⟩
               refine allA_step 3 [5] (by kernel_rfl) ?_
               intro i hi
               simp only [List.mem_cons,List.not_mem_nil,or_false] at hi
               rcases hi with rfl | rfl
               · refine ⟨_,_,_,rfl,(by conv=>lhs; simp [q1,q2,q3,q3',hm,h3,h4,h5,wv,ma,dv3,w3,mb,dv9,w9,mc,cS,hw,hx,g0,r1,r2,r3,wu]),fun _=>?_⟩
                 refine allA_step 5 [] (by kernel_rfl) ?_
                 intro i hi
                 simp only [List.mem_cons,List.not_mem_nil,or_false] at hi
                 subst hi
                 refine ⟨_,_,_,rfl,(by conv=>lhs; simp [q1,q2,q3,q3',hm,h3,h4,h5,wv,ma,dv3,w3,mb,dv9,w9,mc,cS,hw,hx,g0,r1,r2,r3,wu]),fun _=>?_⟩
                 refine allA_step 6 [] (by kernel_rfl) ?_
                 intro i hi
                 simp only [List.mem_cons,List.not_mem_nil,or_false] at hi
                 subst hi
                 refine ⟨_,_,_,rfl,(by conv=>lhs; simp [q1,q2,q3,q3',hm,h3,h4,h5,wv,ma,dv3,w3,mb,dv9,w9,mc,cS,hw,hx,g0,r1,r2,r3,wu]),fun _=>?_⟩
                 refine allA_end (by kernel_rfl) ?_
                 exact AS.le_of rfl ⟨rfl,rfl,rfl,rfl,rfl,rfl,trivial⟩ (fun _=>rfl)
               · refine ⟨_,_,_,rfl,(by conv=>lhs; simp [q1,q2,q3,q3',hm,h3,h4,h5,wv,ma,dv3,w3,mb,dv9,w9,mc,cS,hw,hx,g0,r1,r2,r3,wu]),fun _=>?_⟩
                 refine allA_step 3 [] (by kernel_rfl) ?_
                 intro i hi
                 simp only [List.mem_cons,List.not_mem_nil,or_false] at hi
                 subst hi
                 refine ⟨_,_,_,rfl,(by conv=>lhs; simp [q1,q2,q3,q3',hm,h3,h4,h5,wv,ma,dv3,w3,mb,dv9,w9,mc,cS,hw,hx,g0,r1,r2,r3,wu]),fun _=>?_⟩
                 refine allA_step 6 [] (by kernel_rfl) ?_
                 intro i hi
                 simp only [List.mem_cons,List.not_mem_nil,or_false] at hi
                 subst hi
                 refine ⟨_,_,_,rfl,(by conv=>lhs; simp [q1,q2,q3,q3',hm,h3,h4,h5,wv,ma,dv3,w3,mb,dv9,w9,mc,cS,hw,hx,g0,r1,r2,r3,wu]),fun _=>?_⟩
                 refine allA_end (by kernel_rfl) ?_
                 exact AS.le_of rfl ⟨rfl,rfl,rfl,rfl,rfl,rfl,trivial⟩ (fun _=>rfl)
           · refine ⟨_,_,_,rfl,(by conv=>lhs; simp [q1,q2,q3,q3',hm,h3,h4,h5,wv,ma,dv3,w3,mb,dv9,w9,mc,cS,hw,hx,g0,r1,r2,r3,wu]),fun _=>?_⟩
             refine allA_step 2 [5] (by kernel_rfl) ?_
             intro i hi
             simp only [List.mem_cons,List.not_mem_nil,or_false] at hi
             rcases hi with rfl | rfl
             · refine ⟨_,_,_,rfl,(by conv=>lhs; simp [q1,q2,q3,q3',hm,h3,h4,h5,wv,ma,dv3,w3,mb,dv9,w9,mc,cS,hw,hx,g0,r1,r2,r3,wu]),fun _=>?_⟩
               refine allA_step 3 [5] (by kernel_rfl) ?_
               intro i hi
               simp only [List.mem_cons,List.not_mem_nil,or_false] at hi
               rcases hi with rfl | rfl
               · refine ⟨_,_,_,rfl,(by conv=>lhs; simp [q1,q2,q3,q3',hm,h3,h4,h5,wv,ma,dv3,w3,mb,dv9,w9,mc,cS,hw,hx,g0,r1,r2,r3,wu]),fun _=>?_⟩
                 refine allA_step 5 [] (by kernel_rfl) ?_
                 intro i hi
                 simp only [List.mem_cons,List.not_mem_nil,or_false] at hi
                 subst hi
                 refine ⟨_,_,_,rfl,(by conv=>lhs; simp [q1,q2,q3,q3',hm,h3,h4,h5,wv,ma,dv3,w3,mb,dv9,w9,mc,cS,hw,hx,g0,r1,r2,r3,wu]),fun _=>?_⟩
                 refine allA_step 6 [] (by kernel_rfl) ?_
                 intro i hi
                 simp only [List.mem_cons,List.not_mem_nil,or_false] at hi
                 subst hi
                 refine ⟨_,_,_,rfl,(by conv=>lhs; simp [q1,q2,q3,q3',hm,h3,h4,h5,wv,ma,dv3,w3,mb,dv9,w9,mc,cS,hw,hx,g0,r1,r2,r3,wu]),fun _=>?_⟩
                 refine allA_end (by kernel_rfl) ?_
                 exact AS.le_of rfl ⟨rfl,rfl,rfl,rfl,rfl,rfl,trivial⟩ (fun _=>rfl)
               · refine ⟨_,_,_,rfl,(by conv=>lhs; simp [q1,q2,q3,q3',hm,h3,h4,h5,wv,ma,dv3,w3,mb,dv9,w9,mc,cS,hw,hx,g0,r1,r2,r3,wu]),fun _=>?_⟩
                 refine allA_step 3 [] (by kernel_rfl) ?_
                 intro i hi
                 simp only [List.mem_cons,List.not_mem_nil,or_false] at hi
                 subst hi
                 refine ⟨_,_,_,rfl,(by conv=>lhs; simp [q1,q2,q3,q3',hm,h3,h4,h5,wv,ma,dv3,w3,mb,dv9,w9,mc,cS,hw,hx,g0,r1,r2,r3,wu]),fun _=>?_⟩
                 refine allA_step 6 [] (by kernel_rfl) ?_
                 intro i hi
                 simp only [List.mem_cons,List.not_mem_nil,or_false] at hi
                 subst hi
                 refine ⟨_,_,_,rfl,(by conv=>lhs; simp [q1,q2,q3,q3',hm,h3,h4,h5,wv,ma,dv3,w3,mb,dv9,w9,mc,cS,hw,hx,g0,r1,r2,r3,wu]),fun _=>?_⟩
                 refine allA_end (by kernel_rfl) ?_
                 exact AS.le_of rfl ⟨rfl,rfl,rfl,rfl,rfl,rfl,trivial⟩ (fun _=>rfl)
             · refine ⟨_,_,_,rfl,(by conv=>lhs; simp [q1,q2,q3,q3',hm,h3,h4,h5,wv,ma,dv3,w3,mb,dv9,w9,mc,cS,hw,hx,g0,r1,r2,r3,wu]),fun _=>?_⟩
               refine allA_step 2 [] (by kernel_rfl) ?_
               intro i hi
               simp only [List.mem_cons,List.not_mem_nil,or_false] at hi
               subst hi
               refine ⟨_,_,_,rfl,(by conv=>lhs; simp [q1,q2,q3,q3',hm,h3,h4,h5,wv,ma,dv3,w3,mb,dv9,w9,mc,cS,hw,hx,g0,r1,r2,r3,wu]),fun _=>?_⟩
               refine allA_step 3 [] (by kernel_rfl) ?_
               intro i hi
               simp only [List.mem_cons,List.not_mem_nil,or_false] at hi
               subst hi
               refine ⟨_,_,_,rfl,(by conv=>lhs; simp [q1,q2,q3,q3',hm,h3,h4,h5,wv,ma,dv3,w3,mb,dv9,w9,mc,cS,hw,hx,g0,r1,r2,r3,wu]),fun _=>?_⟩
               refine allA_step 6 [] (by kernel_rfl) ?_
               intro i hi
               simp only [List.mem_cons,List.not_mem_nil,or_false] at hi
               subst hi
               refine ⟨_,_,_,rfl,(by conv=>lhs; simp [q1,q2,q3,q3',hm,h3,h4,h5,wv,ma,dv3,w3,mb,dv9,w9,mc,cS,hw,hx,g0,r1,r2,r3,wu]),fun _=>?_⟩
               refine allA_end (by kernel_rfl) ?_
               exact AS.le_of rfl ⟨rfl,rfl,rfl,rfl,rfl,rfl,trivial⟩ (fun _=>rfl)
       repeat' (first | intro (hb : _ = _) | refine ZV ?_ | refine ZB tm sp ?_ | refine ZH ?_ ?_ | refine ZJ (by conv=>lhs; simp [hw]) ?_ | refine ZA ?_ ?_)
       exact ⟨⟨(k + 1,L,mInc (a,b) S,G,_),⟨hlt,k1⟩,o1,by simp [lk_st,nwB],by simp [lk_st,mapB],by simp [lk_st,h5,mapB]⟩,by dsimp only; omega,AS.le_of rfl ⟨rfl,rfl,rfl,rfl,rfl,rfl,trivial⟩ (fun _=>rfl)⟩
   · have cD := dlpS_eq d8 a b
     rw [hd8] at cD
     have hgb : mGet (a,b) G ≤ k:=by have:=(ho.q a b).1; omega
     rcases ord_dlv ho (by omega) ra rb with ⟨e1,e2,e3,e4,e5, -, -, -⟩ | ⟨e1,e2⟩ | ⟨e1, -⟩
     · generalize dlvN ls a b = R at *
       obtain ⟨m,L,e⟩:=R
       dsimp only at e1 e2 e3 e4 e5
       obtain ⟨g1,g2,g3,g4,g5,o,g6,g7,g8,g9⟩:=m
       dsimp only at e2 e3 e4
       subst e1 e2 e3 e4
       simp only [rDl,Msg.v] at cD
       have e5:=e5.mono (Nat.le_succ k)
       cases hx : mIx (g1,g2) G 0 with
       | none =>
         obtain ⟨g0,r0,r1,r2⟩:=mrow_none hx
         rw [g0,show ((0 : Nat) : Int) = 0 from rfl] at cD
         have wu : IntKind.u64.wrap 1 = 1:=by decide
         repeat' (first | intro (hb : _ = _) | refine ZV ?_ | refine ZB (id:=6) tm sp ?_ | refine ZB (id:=7) tm sp ?_ | refine ZB (id:=8) tm sp ?_ | refine ZB (id:=9) tm sp ?_ | refine ZB (id:=10) tm sp ?_ | refine ZB (id:=11) tm sp ?_ | refine ZB (id:=12) tm sp ?_ | refine ZB (id:=13) tm sp ?_ | refine ZB (id:=14) tm sp ?_ | refine ZB (id:=15) tm sp ?_ | refine ZB (id:=16) tm sp ?_ | refine ZB (id:=17) tm sp ?_ | refine ZB (id:=18) tm sp ?_ | refine ZB (id:=19) tm sp ?_ | refine ZB (id:=20) tm sp ?_ | refine ZB (id:=21) tm sp ?_ | refine ZB (id:=22) tm sp ?_ | refine ZB (id:=23) tm sp ?_ | refine ZB (id:=24) tm sp ?_ | refine ZB (id:=25) tm sp ?_ | refine ZB (id:=26) tm sp ?_ | refine ZB (id:=27) tm sp ?_ | refine ZB (id:=28) tm sp ?_ | refine ZH ?_ ?_ | refine ZJ (by conv=>lhs; simp [q1,q2,q3,q3',hm,h3,h4,h5,wv,ma,dv3,w3,mb,dv9,w9,mc,cD,hw,hx,g0,r1,r2,wu]) ?_ | refine ZA ?_ ?_)
         apply W.regionH (id:=29) (n:=218) (ts:=[(3, .ptr 64 1 0 0),(4, .amap 432 1),(5, .amap 448 1),(28, .list 1 (l.map byte)),(29, .int .i64 l.length),(30, .int .i64 (k : Nat))]) tm sp rfl
         case ha =>
           show allA _ _ _ _ _ 7 _ _
           refine allA_step 0 [1] (by kernel_rfl) ?_
           intro i hi
           simp only [List.mem_cons,List.not_mem_nil,or_false] at hi
           rcases hi with rfl | rfl
           · refine ⟨_,_,_,rfl,(by conv=>lhs; simp [q1,q2,q3,q3',hm,h3,h4,h5,wv,ma,dv3,w3,mb,dv9,w9,mc,cD,hw,hx,g0,r0,r1,r2,wu]),fun _=>?_⟩
             refine allA_step 1 [] (by kernel_rfl) ?_
             intro i hi
             simp only [List.mem_cons,List.not_mem_nil,or_false] at hi
             subst hi
             refine ⟨_,_,_,rfl,(by conv=>lhs; simp [q1,q2,q3,q3',hm,h3,h4,h5,wv,ma,dv3,w3,mb,dv9,w9,mc,cD,hw,hx,g0,r0,r1,r2,wu]),fun _=>?_⟩
             refine allA_step 2 [4] (by kernel_rfl) ?_
             intro i hi
             simp only [List.mem_cons,List.not_mem_nil,or_false] at hi
             rcases hi with rfl | rfl
             · refine ⟨_,_,_,rfl,(by conv=>lhs; simp [q1,q2,q3,q3',hm,h3,h4,h5,wv,ma,dv3,w3,mb,dv9,w9,mc,cD,hw,hx,g0,r0,r1,r2,wu]),fun _=>?_⟩
               refine allA_step 3 [4] (by kernel_rfl) ?_
               intro i hi
               simp only [List.mem_cons,List.not_mem_nil,or_false] at hi
               rcases hi with rfl | rfl
               · refine ⟨_,_,_,rfl,(by conv=>lhs; simp [q1,q2,q3,q3',hm,h3,h4,h5,wv,ma,dv3,w3,mb,dv9,w9,mc,cD,hw,hx,g0,r0,r1,r2,wu]),fun _=>?_⟩
                 refine allA_step 4 [] (by kernel_rfl) ?_
                 intro i hi
                 simp only [List.mem_cons,List.not_mem_nil,or_false] at hi
                 subst hi
                 refine ⟨_,_,_,rfl,(by conv=>lhs; simp [q1,q2,q3,q3',hm,h3,h4,h5,wv,ma,dv3,w3,mb,dv9,w9,mc,cD,hw,hx,g0,r0,r1,r2,wu]),fun _=>?_⟩
                 refine allA_step 5 [] (by kernel_rfl) ?_
                 intro i hi
                 simp only [List.mem_cons,List.not_mem_nil,or_false] at hi
                 subst hi
                 refine ⟨_,_,_,rfl,(by conv=>lhs; simp [q1,q2,q3,q3',hm,h3,h4,h5,wv,ma,dv3,w3,mb,dv9,w9,mc,cD,hw,hx,g0,r0,r1,r2,wu]),fun _=>?_⟩
                 refine allA_step 6 [] (by kernel_rfl) ?_
                 intro i hi
                 simp only [List.mem_cons,List.not_mem_nil,or_false] at hi
                 subst hi
                 refine ⟨_,_,_,rfl,(by conv=>lhs; simp [q1,q2,q3,q3',hm,h3,h4,h5,wv,ma,dv3,w3,mb,dv9,w9,mc,cD,hw,hx,g0,r0,r1,r2,wu]),fun _=>?_⟩
                 refine allA_end (by kernel_rfl) ?_
                 exact AS.le_of rfl ⟨rfl,rfl,rfl,rfl,rfl,rfl,trivial⟩ (fun _=>rfl)
               · refine ⟨_,_,_,rfl,(by conv=>lhs; simp [q1,q2,q3,q3',hm,h3,h4,h5,wv,ma,dv3,w3,mb,dv9,w9,mc,cD,hw,hx,g0,r0,r1,r2,wu]),fun _=>?_⟩
                 refine allA_step 3 [5] (by kernel_rfl) ?_
                 intro i hi
                 simp only [List.mem_cons,List.not_mem_nil,or_false] at hi
                 rcases hi with rfl | rfl
                 · refine ⟨_,_,_,rfl,(by conv=>lhs; simp [q1,q2,q3,q3',hm,h3,h4,h5,wv,ma,dv3,w3,mb,dv9,w9,mc,cD,hw,hx,g0,r0,r1,r2,wu]),fun _=>?_⟩
                   refine allA_step 5 [] (by kernel_rfl) ?_
                   intro i hi
                   simp only [List.mem_cons,List.not_mem_nil,or_false] at hi
                   subst hi
                   refine ⟨_,_,_,rfl,(by conv=>lhs; simp [q1,q2,q3,q3',hm,h3,h4,h5,wv,ma,dv3,w3,mb,dv9,w9,mc,cD,hw,hx,g0,r0,r1,r2,wu]),fun _=>?_⟩
                   refine allA_step 6 [] (by kernel_rfl) ?_
                   intro i hi
                   simp only [List.mem_cons,List.not_mem_nil,or_false] at hi
                   subst hi
                   refine ⟨_,_,_,rfl,(by conv=>lhs; simp [q1,q2,q3,q3',hm,h3,h4,h5,wv,ma,dv3,w3,mb,dv9,w9,mc,cD,hw,hx,g0,r0,r1,r2,wu]),fun _=>?_⟩
                   refine allA_end (by kernel_rfl) ?_
                   exact AS.le_of rfl ⟨rfl,rfl,rfl,rfl,rfl,rfl,trivial⟩ (fun _=>rfl)
                 · refine ⟨_,_,_,rfl,(by conv=>lhs; simp [q1,q2,q3,q3',hm,h3,h4,h5,wv,ma,dv3,w3,mb,dv9,w9,mc,cD,hw,hx,g0,r0,r1,r2,wu]),fun _=>?_⟩
                   refine allA_step 3 [] (by kernel_rfl) ?_
                   intro i hi
                   simp only [List.mem_cons,List.not_mem_nil,or_false] at hi
                   subst hi
                   refine ⟨_,_,_,rfl,(by conv=>lhs; simp [q1,q2,q3,q3',hm,h3,h4,h5,wv,ma,dv3,w3,mb,dv9,w9,mc,cD,hw,hx,g0,r0,r1,r2,wu]),fun _=>?_⟩
                   refine allA_step 6 [] (by kernel_rfl) ?_
                   intro i hi
                   simp only [List.mem_cons,List.not_mem_nil,or_false] at hi
                   subst hi
                   refine ⟨_,_,_,rfl,(by conv=>lhs; simp [q1,q2,q3,q3',hm,h3,h4,h5,wv,ma,dv3,w3,mb,dv9,w9,mc,cD,hw,hx,g0,r0,r1,r2,wu]),fun _=>?_⟩
                   refine allA_end (by kernel_rfl) ?_
                   exact AS.le_of rfl ⟨rfl,rfl,rfl,rfl,rfl,rfl,trivial⟩ (fun _=>rfl)
             · refine ⟨_,_,_,rfl,(by conv=>lhs; simp [q1,q2,q3,q3',hm,h3,h4,h5,wv,ma,dv3,w3,mb,dv9,w9,mc,cD,hw,hx,g0,r0,r1,r2,wu]),fun _=>?_⟩
               refine allA_step 2 [5] (by kernel_rfl) ?_
               intro i hi
               simp only [List.mem_cons,List.not_mem_nil,or_false] at hi
               rcases hi with rfl | rfl
               · refine ⟨_,_,_,rfl,(by conv=>lhs; simp [q1,q2,q3,q3',hm,h3,h4,h5,wv,ma,dv3,w3,mb,dv9,w9,mc,cD,hw,hx,g0,r0,r1,r2,wu]),fun _=>?_⟩
                 refine allA_step 3 [5] (by kernel_rfl) ?_
                 intro i hi
                 simp only [List.mem_cons,List.not_mem_nil,or_false] at hi
                 rcases hi with rfl | rfl
                 · refine ⟨_,_,_,rfl,(by conv=>lhs; simp [q1,q2,q3,q3',hm,h3,h4,h5,wv,ma,dv3,w3,mb,dv9,w9,mc,cD,hw,hx,g0,r0,r1,r2,wu]),fun _=>?_⟩
                   refine allA_step 5 [] (by kernel_rfl) ?_
                   intro i hi
                   simp only [List.mem_cons,List.not_mem_nil,or_false] at hi
                   subst hi
                   refine ⟨_,_,_,rfl,(by conv=>lhs; simp [q1,q2,q3,q3',hm,h3,h4,h5,wv,ma,dv3,w3,mb,dv9,w9,mc,cD,hw,hx,g0,r0,r1,r2,wu]),fun _=>?_⟩
                   refine allA_step 6 [] (by kernel_rfl) ?_
                   intro i hi
                   simp only [List.mem_cons,List.not_mem_nil,or_false] at hi
                   subst hi
                   refine ⟨_,_,_,rfl,(by conv=>lhs; simp [q1,q2,q3,q3',hm,h3,h4,h5,wv,ma,dv3,w3,mb,dv9,w9,mc,cD,hw,hx,g0,r0,r1,r2,wu]),fun _=>?_⟩
                   refine allA_end (by kernel_rfl) ?_
                   exact AS.le_of rfl ⟨rfl,rfl,rfl,rfl,rfl,rfl,trivial⟩ (fun _=>rfl)
                 · refine ⟨_,_,_,rfl,(by conv=>lhs; simp [q1,q2,q3,q3',hm,h3,h4,h5,wv,ma,dv3,w3,mb,dv9,w9,mc,cD,hw,hx,g0,r0,r1,r2,wu]),fun _=>?_⟩
                   refine allA_step 3 [] (by kernel_rfl) ?_
                   intro i hi
                   simp only [List.mem_cons,List.not_mem_nil,or_false] at hi
                   subst hi
                   refine ⟨_,_,_,rfl,(by conv=>lhs; simp [q1,q2,q3,q3',hm,h3,h4,h5,wv,ma,dv3,w3,mb,dv9,w9,mc,cD,hw,hx,g0,r0,r1,r2,wu]),fun _=>?_⟩
                   refine allA_step 6 [] (by kernel_rfl) ?_
                   intro i hi
                   simp only [List.mem_cons,List.not_mem_nil,or_false] at hi
                   subst hi
                   refine ⟨_,_,_,rfl,(by conv=>lhs; simp [q1,q2,q3,q3',hm,h3,h4,h5,wv,ma,dv3,w3,mb,dv9,w9,mc,cD,hw,hx,g0,r0,r1,r2,wu]),fun _=>?_⟩
                   refine allA_end (by kernel_rfl) ?_
                   exact AS.le_of rfl ⟨rfl,rfl,rfl,rfl,rfl,rfl,trivial⟩ (fun _=>rfl)
               · refine ⟨_,_,_,rfl,(by conv=>lhs; simp [q1,q2,q3,q3',hm,h3,h4,h5,wv,ma,dv3,w3,mb,dv9,w9,mc,cD,hw,hx,g0,r0,r1,r2,wu]),fun _=>?_⟩
                 refine allA_step 2 [] (by kernel_rfl) ?_
                 intro i hi
                 simp only [List.mem_cons,List.not_mem_nil,or_false] at hi
                 subst hi
                 refine ⟨_,_,_,rfl,(by conv=>lhs; simp [q1,q2,q3,q3',hm,h3,h4,h5,wv,ma,dv3,w3,mb,dv9,w9,mc,cD,hw,hx,g0,r0,r1,r2,wu]),fun _=>?_⟩
                 refine allA_step 3 [] (by kernel_rfl) ?_
                 intro i hi
                 simp only [List.mem_cons,List.not_mem_nil,or_false] at hi
                 subst hi
                 refine ⟨_,_,_,rfl,(by conv=>lhs; simp [q1,q2,q3,q3',hm,h3,h4,h5,wv,ma,dv3,w3,mb,dv9,w9,mc,cD,hw,hx,g0,r0,r1,r2,wu]),fun _=>?_⟩
                 refine allA_step 6 [] (by kernel_rfl) ?_
                 intro i hi
                 simp only [List.mem_cons,List.not_mem_nil,or_false] at hi
                 subst hi
                 refine ⟨_,_,_,rfl,(by conv=>lhs; simp [q1,q2,q3,q3',hm,h3,h4,h5,wv,ma,dv3,w3,mb,dv9,w9,mc,cD,hw,hx,g0,r0,r1,r2,wu]),fun _=>?_⟩
                 refine allA_end (by kernel_rfl) ?_
                 exact AS.le_of rfl ⟨rfl,rfl,rfl,rfl,rfl,rfl,trivial⟩ (fun _=>rfl)
           · refine ⟨_,_,_,rfl,(by conv=>lhs; simp [q1,q2,q3,q3',hm,h3,h4,h5,wv,ma,dv3,w3,mb,dv9,w9,mc,cD,hw,hx,g0,r0,r1,r2,wu]),fun _=>?_⟩
             refine allA_step 0 [] (by kernel_rfl) ?_
             intro i hi
             simp only [List.mem_cons,List.not_mem_nil,or_false] at hi
             subst hi
             refine ⟨_,_,_,rfl,(by conv=>lhs; simp [q1,q2,q3,q3',hm,h3,h4,h5,wv,ma,dv3,w3,mb,dv9,w9,mc,cD,hw,hx,g0,r0,r1,r2,wu]),fun _=>?_⟩
             refine allA_step 2 [4] (by kernel_rfl) ?_
             intro i hi
             simp only [List.mem_cons,List.not_mem_nil,or_false] at hi
             rcases hi with rfl | rfl
             · refine ⟨_,_,_,rfl,(by conv=>lhs; simp [q1,q2,q3,q3',hm,h3,h4,h5,wv,ma,dv3,w3,mb,dv9,w9,mc,cD,hw,hx,g0,r0,r1,r2,wu]),fun _=>?_⟩
               refine allA_step 3 [4] (by kernel_rfl) ?_
               intro i hi
               simp only [List.mem_cons,List.not_mem_nil,or_false] at hi
               rcases hi with rfl | rfl
               · refine ⟨_,_,_,rfl,(by conv=>lhs; simp [q1,q2,q3,q3',hm,h3,h4,h5,wv,ma,dv3,w3,mb,dv9,w9,mc,cD,hw,hx,g0,r0,r1,r2,wu]),fun _=>?_⟩
                 refine allA_step 4 [] (by kernel_rfl) ?_
                 intro i hi
                 simp only [List.mem_cons,List.not_mem_nil,or_false] at hi
                 subst hi
                 refine ⟨_,_,_,rfl,(by conv=>lhs; simp [q1,q2,q3,q3',hm,h3,h4,h5,wv,ma,dv3,w3,mb,dv9,w9,mc,cD,hw,hx,g0,r0,r1,r2,wu]),fun _=>?_⟩
                 refine allA_step 5 [] (by kernel_rfl) ?_
                 intro i hi
                 simp only [List.mem_cons,List.not_mem_nil,or_false] at hi
                 subst hi
                 refine ⟨_,_,_,rfl,(by conv=>lhs; simp [q1,q2,q3,q3',hm,h3,h4,h5,wv,ma,dv3,w3,mb,dv9,w9,mc,cD,hw,hx,g0,r0,r1,r2,wu]),fun _=>?_⟩
                 refine allA_step 6 [] (by kernel_rfl) ?_
                 intro i hi
                 simp only [List.mem_cons,List.not_mem_nil,or_false] at hi
                 subst hi
                 refine ⟨_,_,_,rfl,(by conv=>lhs; simp [q1,q2,q3,q3',hm,h3,h4,h5,wv,ma,dv3,w3,mb,dv9,w9,mc,cD,hw,hx,g0,r0,r1,r2,wu]),fun _=>?_⟩
                 refine allA_end (by kernel_rfl) ?_
                 exact AS.le_of rfl ⟨rfl,rfl,rfl,rfl,rfl,rfl,trivial⟩ (fun _=>rfl)
               · refine ⟨_,_,_,rfl,(by conv=>lhs; simp [q1,q2,q3,q3',hm,h3,h4,h5,wv,ma,dv3,w3,mb,dv9,w9,mc,cD,hw,hx,g0,r0,r1,r2,wu]),fun _=>?_⟩
                 refine allA_step 3 [5] (by kernel_rfl) ?_
                 intro i hi
                 simp only [List.mem_cons,List.not_mem_nil,or_false] at hi
                 rcases hi with rfl | rfl
                 · refine ⟨_,_,_,rfl,(by conv=>lhs; simp [q1,q2,q3,q3',hm,h3,h4,h5,wv,ma,dv3,w3,mb,dv9,w9,mc,cD,hw,hx,g0,r0,r1,r2,wu]),fun _=>?_⟩
                   refine allA_step 5 [] (by kernel_rfl) ?_
                   intro i hi
                   simp only [List.mem_cons,List.not_mem_nil,or_false] at hi
                   subst hi
                   refine ⟨_,_,_,rfl,(by conv=>lhs; simp [q1,q2,q3,q3',hm,h3,h4,h5,wv,ma,dv3,w3,mb,dv9,w9,mc,cD,hw,hx,g0,r0,r1,r2,wu]),fun _=>?_⟩
                   refine allA_step 6 [] (by kernel_rfl) ?_
                   intro i hi
                   simp only [List.mem_cons,List.not_mem_nil,or_false] at hi
                   subst hi
                   refine ⟨_,_,_,rfl,(by conv=>lhs; simp [q1,q2,q3,q3',hm,h3,h4,h5,wv,ma,dv3,w3,mb,dv9,w9,mc,cD,hw,hx,g0,r0,r1,r2,wu]),fun _=>?_⟩
                   refine allA_end (by kernel_rfl) ?_
                   exact AS.le_of rfl ⟨rfl,rfl,rfl,rfl,rfl,rfl,trivial⟩ (fun _=>rfl)
                 · refine ⟨_,_,_,rfl,(by conv=>lhs; simp [q1,q2,q3,q3',hm,h3,h4,h5,wv,ma,dv3,w3,mb,dv9,w9,mc,cD,hw,hx,g0,r0,r1,r2,wu]),fun _=>?_⟩
                   refine allA_step 3 [] (by kernel_rfl) ?_
                   intro i hi
                   simp only [List.mem_cons,List.not_mem_nil,or_false] at hi
                   subst hi
                   refine ⟨_,_,_,rfl,(by conv=>lhs; simp [q1,q2,q3,q3',hm,h3,h4,h5,wv,ma,dv3,w3,mb,dv9,w9,mc,cD,hw,hx,g0,r0,r1,r2,wu]),fun _=>?_⟩
                   refine allA_step 6 [] (by kernel_rfl) ?_
                   intro i hi
                   simp only [List.mem_cons,List.not_mem_nil,or_false] at hi
                   subst hi
                   refine ⟨_,_,_,rfl,(by conv=>lhs; simp [q1,q2,q3,q3',hm,h3,h4,h5,wv,ma,dv3,w3,mb,dv9,w9,mc,cD,hw,hx,g0,r0,r1,r2,wu]),fun _=>?_⟩
                   refine allA_end (by kernel_rfl) ?_
                   exact AS.le_of rfl ⟨rfl,rfl,rfl,rfl,rfl,rfl,trivial⟩ (fun _=>rfl)
             · refine ⟨_,_,_,rfl,(by conv=>lhs; simp [q1,q2,q3,q3',hm,h3,h4,h5,wv,ma,dv3,w3,mb,dv9,w9,mc,cD,hw,hx,g0,r0,r1,r2,wu]),fun _=>?_⟩
               refine allA_step 2 [5] (by kernel_rfl) ?_
               intro i hi
               simp only [List.mem_cons,List.not_mem_nil,or_false] at hi
               rcases hi with rfl | rfl
               · refine ⟨_,_,_,rfl,(by conv=>lhs; simp [q1,q2,q3,q3',hm,h3,h4,h5,wv,ma,dv3,w3,mb,dv9,w9,mc,cD,hw,hx,g0,r0,r1,r2,wu]),fun _=>?_⟩
                 refine allA_step 3 [5] (by kernel_rfl) ?_
                 intro i hi
                 simp only [List.mem_cons,List.not_mem_nil,or_false] at hi
                 rcases hi with rfl | rfl
                 · refine ⟨_,_,_,rfl,(by conv=>lhs; simp [q1,q2,q3,q3',hm,h3,h4,h5,wv,ma,dv3,w3,mb,dv9,w9,mc,cD,hw,hx,g0,r0,r1,r2,wu]),fun _=>?_⟩
                   refine allA_step 5 [] (by kernel_rfl) ?_
                   intro i hi
                   simp only [List.mem_cons,List.not_mem_nil,or_false] at hi
                   subst hi
                   refine ⟨_,_,_,rfl,(by conv=>lhs; simp [q1,q2,q3,q3',hm,h3,h4,h5,wv,ma,dv3,w3,mb,dv9,w9,mc,cD,hw,hx,g0,r0,r1,r2,wu]),fun _=>?_⟩
                   refine allA_step 6 [] (by kernel_rfl) ?_
                   intro i hi
                   simp only [List.mem_cons,List.not_mem_nil,or_false] at hi
                   subst hi
                   refine ⟨_,_,_,rfl,(by conv=>lhs; simp [q1,q2,q3,q3',hm,h3,h4,h5,wv,ma,dv3,w3,mb,dv9,w9,mc,cD,hw,hx,g0,r0,r1,r2,wu]),fun _=>?_⟩
                   refine allA_end (by kernel_rfl) ?_
                   exact AS.le_of rfl ⟨rfl,rfl,rfl,rfl,rfl,rfl,trivial⟩ (fun _=>rfl)
                 · refine ⟨_,_,_,rfl,(by conv=>lhs; simp [q1,q2,q3,q3',hm,h3,h4,h5,wv,ma,dv3,w3,mb,dv9,w9,mc,cD,hw,hx,g0,r0,r1,r2,wu]),fun _=>?_⟩
                   refine allA_step 3 [] (by kernel_rfl) ?_
                   intro i hi
                   simp only [List.mem_cons,List.not_mem_nil,or_false] at hi
                   subst hi
                   refine ⟨_,_,_,rfl,(by conv=>lhs; simp [q1,q2,q3,q3',hm,h3,h4,h5,wv,ma,dv3,w3,mb,dv9,w9,mc,cD,hw,hx,g0,r0,r1,r2,wu]),fun _=>?_⟩
                   refine allA_step 6 [] (by kernel_rfl) ?_
                   intro i hi
                   simp only [List.mem_cons,List.not_mem_nil,or_false] at hi
                   subst hi
                   refine ⟨_,_,_,rfl,(by conv=>lhs; simp [q1,q2,q3,q3',hm,h3,h4,h5,wv,ma,dv3,w3,mb,dv9,w9,mc,cD,hw,hx,g0,r0,r1,r2,wu]),fun _=>?_⟩
                   refine allA_end (by kernel_rfl) ?_
                   exact AS.le_of rfl ⟨rfl,rfl,rfl,rfl,rfl,rfl,trivial⟩ (fun _=>rfl)
               · refine ⟨_,_,_,rfl,(by conv=>lhs; simp [q1,q2,q3,q3',hm,h3,h4,h5,wv,ma,dv3,w3,mb,dv9,w9,mc,cD,hw,hx,g0,r0,r1,r2,wu]),fun _=>?_⟩
                 refine allA_step 2 [] (by kernel_rfl) ?_
                 intro i hi
                 simp only [List.mem_cons,List.not_mem_nil,or_false] at hi
                 subst hi
                 refine ⟨_,_,_,rfl,(by conv=>lhs; simp [q1,q2,q3,q3',hm,h3,h4,h5,wv,ma,dv3,w3,mb,dv9,w9,mc,cD,hw,hx,g0,r0,r1,r2,wu]),fun _=>?_⟩
                 refine allA_step 3 [] (by kernel_rfl) ?_
                 intro i hi
                 simp only [List.mem_cons,List.not_mem_nil,or_false] at hi
                 subst hi
                 refine ⟨_,_,_,rfl,(by conv=>lhs; simp [q1,q2,q3,q3',hm,h3,h4,h5,wv,ma,dv3,w3,mb,dv9,w9,mc,cD,hw,hx,g0,r0,r1,r2,wu]),fun _=>?_⟩
                 refine allA_step 6 [] (by kernel_rfl) ?_
                 intro i hi
                 simp only [List.mem_cons,List.not_mem_nil,or_false] at hi
                 subst hi
                 refine ⟨_,_,_,rfl,(by conv=>lhs; simp [q1,q2,q3,q3',hm,h3,h4,h5,wv,ma,dv3,w3,mb,dv9,w9,mc,cD,hw,hx,g0,r0,r1,r2,wu]),fun _=>?_⟩
                 refine allA_end (by kernel_rfl) ?_
                 exact AS.le_of rfl ⟨rfl,rfl,rfl,rfl,rfl,rfl,trivial⟩ (fun _=>rfl)
         repeat' (first | intro (hb : _ = _) | refine ZV ?_ | refine ZB tm sp ?_ | refine ZH ?_ ?_ | refine ZJ (by conv=>lhs; simp [hw]) ?_ | refine ZA ?_ ?_)
         exact ⟨⟨(k + 1,L,S,mInc (g1,g2) G,_),⟨hlt,k1⟩,e5,by simp [lk_st,nwB],by simp [lk_st,h4,mapB],by simp [lk_st,mapB]⟩,by dsimp only; omega,AS.le_of rfl ⟨rfl,rfl,rfl,rfl,rfl,rfl,trivial⟩ (fun _=>rfl)⟩
       | some x =>
         obtain ⟨j,n⟩:=x
         obtain ⟨g0,r1,r2,r3⟩:=mrow_some hx
         rw [g0] at cD hgb
         have wu : IntKind.u64.wrap ((n : Int) + 1) = (n : Int) + 1:=wu64 (by omega) (by omega)
         repeat' (first | intro (hb : _ = _) | refine ZV ?_ | refine ZB (id:=6) tm sp ?_ | refine ZB (id:=7) tm sp ?_ | refine ZB (id:=8) tm sp ?_ | refine ZB (id:=9) tm sp ?_ | refine ZB (id:=10) tm sp ?_ | refine ZB (id:=11) tm sp ?_ | refine ZB (id:=12) tm sp ?_ | refine ZB (id:=13) tm sp ?_ | refine ZB (id:=14) tm sp ?_ | refine ZB (id:=15) tm sp ?_ | refine ZB (id:=16) tm sp ?_ | refine ZB (id:=17) tm sp ?_ | refine ZB (id:=18) tm sp ?_ | refine ZB (id:=19) tm sp ?_ | refine ZB (id:=20) tm sp ?_ | refine ZB (id:=21) tm sp ?_ | refine ZB (id:=22) tm sp ?_ | refine ZB (id:=23) tm sp ?_ | refine ZB (id:=24) tm sp ?_ | refine ZB (id:=25) tm sp ?_ | refine ZB (id:=26) tm sp ?_ | refine ZB (id:=27) tm sp ?_ | refine ZB (id:=28) tm sp ?_ | refine ZH ?_ ?_ | refine ZJ (by conv=>lhs; simp [q1,q2,q3,q3',hm,h3,h4,h5,wv,ma,dv3,w3,mb,dv9,w9,mc,cD,hw,hx,g0,r1,r2,r3,wu]) ?_ | refine ZA ?_ ?_)
         apply W.regionH (id:=29) (n:=218) (ts:=[(3, .ptr 64 1 0 0),(4, .amap 432 1),(5, .amap 448 1),(28, .list 1 (l.map byte)),(29, .int .i64 l.length),(30, .int .i64 (k : Nat))]) tm sp rfl
         case ha =>
           show allA _ _ _ _ _ 7 _ _
           refine allA_step 0 [1] (by kernel_rfl) ?_
           intro i hi
           simp only [List.mem_cons,List.not_mem_nil,or_false] at hi
           rcases hi with rfl | rfl
           · refine ⟨_,_,_,rfl,(by conv=>lhs; simp [q1,q2,q3,q3',hm,h3,h4,h5,wv,ma,dv3,w3,mb,dv9,w9,mc,cD,hw,hx,g0,r1,r2,r3,wu]),fun _=>?_⟩
             refine allA_step 1 [] (by kernel_rfl) ?_
             intro i hi
             simp only [List.mem_cons,List.not_mem_nil,or_false] at hi
             subst hi
             refine ⟨_,_,_,rfl,(by conv=>lhs; simp [q1,q2,q3,q3',hm,h3,h4,h5,wv,ma,dv3,w3,mb,dv9,w9,mc,cD,hw,hx,g0,r1,r2,r3,wu]),fun _=>?_⟩
             refine allA_step 2 [4] (by kernel_rfl) ?_
             intro i hi
             simp only [List.mem_cons,List.not_mem_nil,or_false] at hi
             rcases hi with rfl | rfl
             · refine ⟨_,_,_,rfl,(by conv=>lhs; simp [q1,q2,q3,q3',hm,h3,h4,h5,wv,ma,dv3,w3,mb,dv9,w9,mc,cD,hw,hx,g0,r1,r2,r3,wu]),fun _=>?_⟩
               refine allA_step 3 [4] (by kernel_rfl) ?_
               intro i hi
               simp only [List.mem_cons,List.not_mem_nil,or_false] at hi
               rcases hi with rfl | rfl
               · refine ⟨_,_,_,rfl,(by conv=>lhs; simp [q1,q2,q3,q3',hm,h3,h4,h5,wv,ma,dv3,w3,mb,dv9,w9,mc,cD,hw,hx,g0,r1,r2,r3,wu]),fun _=>?_⟩
                 refine allA_step 4 [] (by kernel_rfl) ?_
                 intro i hi
                 simp only [List.mem_cons,List.not_mem_nil,or_false] at hi
                 subst hi
                 refine ⟨_,_,_,rfl,(by conv=>lhs; simp [q1,q2,q3,q3',hm,h3,h4,h5,wv,ma,dv3,w3,mb,dv9,w9,mc,cD,hw,hx,g0,r1,r2,r3,wu]),fun _=>?_⟩
                 refine allA_step 5 [] (by kernel_rfl) ?_
                 intro i hi
                 simp only [List.mem_cons,List.not_mem_nil,or_false] at hi
                 subst hi
                 refine ⟨_,_,_,rfl,(by conv=>lhs; simp [q1,q2,q3,q3',hm,h3,h4,h5,wv,ma,dv3,w3,mb,dv9,w9,mc,cD,hw,hx,g0,r1,r2,r3,wu]),fun _=>?_⟩
                 refine allA_step 6 [] (by kernel_rfl) ?_
                 intro i hi
                 simp only [List.mem_cons,List.not_mem_nil,or_false] at hi
                 subst hi
                 refine ⟨_,_,_,rfl,(by conv=>lhs; simp [q1,q2,q3,q3',hm,h3,h4,h5,wv,ma,dv3,w3,mb,dv9,w9,mc,cD,hw,hx,g0,r1,r2,r3,wu]),fun _=>?_⟩
                 refine allA_end (by kernel_rfl) ?_
                 exact AS.le_of rfl ⟨rfl,rfl,rfl,rfl,rfl,rfl,trivial⟩ (fun _=>rfl)
               · refine ⟨_,_,_,rfl,(by conv=>lhs; simp [q1,q2,q3,q3',hm,h3,h4,h5,wv,ma,dv3,w3,mb,dv9,w9,mc,cD,hw,hx,g0,r1,r2,r3,wu]),fun _=>?_⟩
                 refine allA_step 3 [5] (by kernel_rfl) ?_
                 intro i hi
                 simp only [List.mem_cons,List.not_mem_nil,or_false] at hi
                 rcases hi with rfl | rfl
                 · refine ⟨_,_,_,rfl,(by conv=>lhs; simp [q1,q2,q3,q3',hm,h3,h4,h5,wv,ma,dv3,w3,mb,dv9,w9,mc,cD,hw,hx,g0,r1,r2,r3,wu]),fun _=>?_⟩
                   refine allA_step 5 [] (by kernel_rfl) ?_
                   intro i hi
                   simp only [List.mem_cons,List.not_mem_nil,or_false] at hi
                   subst hi
                   refine ⟨_,_,_,rfl,(by conv=>lhs; simp [q1,q2,q3,q3',hm,h3,h4,h5,wv,ma,dv3,w3,mb,dv9,w9,mc,cD,hw,hx,g0,r1,r2,r3,wu]),fun _=>?_⟩
                   refine allA_step 6 [] (by kernel_rfl) ?_
                   intro i hi
                   simp only [List.mem_cons,List.not_mem_nil,or_false] at hi
                   subst hi
                   refine ⟨_,_,_,rfl,(by conv=>lhs; simp [q1,q2,q3,q3',hm,h3,h4,h5,wv,ma,dv3,w3,mb,dv9,w9,mc,cD,hw,hx,g0,r1,r2,r3,wu]),fun _=>?_⟩
                   refine allA_end (by kernel_rfl) ?_
                   exact AS.le_of rfl ⟨rfl,rfl,rfl,rfl,rfl,rfl,trivial⟩ (fun _=>rfl)
                 · refine ⟨_,_,_,rfl,(by conv=>lhs; simp [q1,q2,q3,q3',hm,h3,h4,h5,wv,ma,dv3,w3,mb,dv9,w9,mc,cD,hw,hx,g0,r1,r2,r3,wu]),fun _=>?_⟩
                   refine allA_step 3 [] (by kernel_rfl) ?_
                   intro i hi
                   simp only [List.mem_cons,List.not_mem_nil,or_false] at hi
                   subst hi
                   refine ⟨_,_,_,rfl,(by conv=>lhs; simp [q1,q2,q3,q3',hm,h3,h4,h5,wv,ma,dv3,w3,mb,dv9,w9,mc,cD,hw,hx,g0,r1,r2,r3,wu]),fun _=>?_⟩
                   refine allA_step 6 [] (by kernel_rfl) ?_
                   intro i hi
                   simp only [List.mem_cons,List.not_mem_nil,or_false] at hi
                   subst hi
                   refine ⟨_,_,_,rfl,(by conv=>lhs; simp [q1,q2,q3,q3',hm,h3,h4,h5,wv,ma,dv3,w3,mb,dv9,w9,mc,cD,hw,hx,g0,r1,r2,r3,wu]),fun _=>?_⟩
                   refine allA_end (by kernel_rfl) ?_
                   exact AS.le_of rfl ⟨rfl,rfl,rfl,rfl,rfl,rfl,trivial⟩ (fun _=>rfl)
             · refine ⟨_,_,_,rfl,(by conv=>lhs; simp [q1,q2,q3,q3',hm,h3,h4,h5,wv,ma,dv3,w3,mb,dv9,w9,mc,cD,hw,hx,g0,r1,r2,r3,wu]),fun _=>?_⟩
               refine allA_step 2 [5] (by kernel_rfl) ?_
               intro i hi
               simp only [List.mem_cons,List.not_mem_nil,or_false] at hi
               rcases hi with rfl | rfl
               · refine ⟨_,_,_,rfl,(by conv=>lhs; simp [q1,q2,q3,q3',hm,h3,h4,h5,wv,ma,dv3,w3,mb,dv9,w9,mc,cD,hw,hx,g0,r1,r2,r3,wu]),fun _=>?_⟩
                 refine allA_step 3 [5] (by kernel_rfl) ?_
                 intro i hi
                 simp only [List.mem_cons,List.not_mem_nil,or_false] at hi
                 rcases hi with rfl | rfl
                 · refine ⟨_,_,_,rfl,(by conv=>lhs; simp [q1,q2,q3,q3',hm,h3,h4,h5,wv,ma,dv3,w3,mb,dv9,w9,mc,cD,hw,hx,g0,r1,r2,r3,wu]),fun _=>?_⟩
                   refine allA_step 5 [] (by kernel_rfl) ?_
                   intro i hi
                   simp only [List.mem_cons,List.not_mem_nil,or_false] at hi
                   subst hi
                   refine ⟨_,_,_,rfl,(by conv=>lhs; simp [q1,q2,q3,q3',hm,h3,h4,h5,wv,ma,dv3,w3,mb,dv9,w9,mc,cD,hw,hx,g0,r1,r2,r3,wu]),fun _=>?_⟩
                   refine allA_step 6 [] (by kernel_rfl) ?_
                   intro i hi
                   simp only [List.mem_cons,List.not_mem_nil,or_false] at hi
                   subst hi
                   refine ⟨_,_,_,rfl,(by conv=>lhs; simp [q1,q2,q3,q3',hm,h3,h4,h5,wv,ma,dv3,w3,mb,dv9,w9,mc,cD,hw,hx,g0,r1,r2,r3,wu]),fun _=>?_⟩
                   refine allA_end (by kernel_rfl) ?_
                   exact AS.le_of rfl ⟨rfl,rfl,rfl,rfl,rfl,rfl,trivial⟩ (fun _=>rfl)
                 · refine ⟨_,_,_,rfl,(by conv=>lhs; simp [q1,q2,q3,q3',hm,h3,h4,h5,wv,ma,dv3,w3,mb,dv9,w9,mc,cD,hw,hx,g0,r1,r2,r3,wu]),fun _=>?_⟩
                   refine allA_step 3 [] (by kernel_rfl) ?_
                   intro i hi
                   simp only [List.mem_cons,List.not_mem_nil,or_false] at hi
                   subst hi
                   refine ⟨_,_,_,rfl,(by conv=>lhs; simp [q1,q2,q3,q3',hm,h3,h4,h5,wv,ma,dv3,w3,mb,dv9,w9,mc,cD,hw,hx,g0,r1,r2,r3,wu]),fun _=>?_⟩
                   refine allA_step 6 [] (by kernel_rfl) ?_
                   intro i hi
                   simp only [List.mem_cons,List.not_mem_nil,or_false] at hi
                   subst hi
                   refine ⟨_,_,_,rfl,(by conv=>lhs; simp [q1,q2,q3,q3',hm,h3,h4,h5,wv,ma,dv3,w3,mb,dv9,w9,mc,cD,hw,hx,g0,r1,r2,r3,wu]),fun _=>?_⟩
                   refine allA_end (by kernel_rfl) ?_
                   exact AS.le_of rfl ⟨rfl,rfl,rfl,rfl,rfl,rfl,trivial⟩ (fun _=>rfl)
               · refine ⟨_,_,_,rfl,(by conv=>lhs; simp [q1,q2,q3,q3',hm,h3,h4,h5,wv,ma,dv3,w3,mb,dv9,w9,mc,cD,hw,hx,g0,r1,r2,r3,wu]),fun _=>?_⟩
                 refine allA_step 2 [] (by kernel_rfl) ?_
                 intro i hi
                 simp only [List.mem_cons,List.not_mem_nil,or_false] at hi
                 subst hi
                 refine ⟨_,_,_,rfl,(by conv=>lhs; simp [q1,q2,q3,q3',hm,h3,h4,h5,wv,ma,dv3,w3,mb,dv9,w9,mc,cD,hw,hx,g0,r1,r2,r3,wu]),fun _=>?_⟩
                 refine allA_step 3 [] (by kernel_rfl) ?_
                 intro i hi
                 simp only [List.mem_cons,List.not_mem_nil,or_false] at hi
                 subst hi
                 refine ⟨_,_,_,rfl,(by conv=>lhs; simp [q1,q2,q3,q3',hm,h3,h4,h5,wv,ma,dv3,w3,mb,dv9,w9,mc,cD,hw,hx,g0,r1,r2,r3,wu]),fun _=>?_⟩
                 refine allA_step 6 [] (by kernel_rfl) ?_
                 intro i hi
                 simp only [List.mem_cons,List.not_mem_nil,or_false] at hi
                 subst hi
                 refine ⟨_,_,_,rfl,(by conv=>lhs; simp [q1,q2,q3,q3',hm,h3,h4,h5,wv,ma,dv3,w3,mb,dv9,w9,mc,cD,hw,hx,g0,r1,r2,r3,wu]),fun _=>?_⟩
                 refine allA_end (by kernel_rfl) ?_
                 exact AS.le_of rfl ⟨rfl,rfl,rfl,rfl,rfl,rfl,trivial⟩ (fun _=>rfl)
           · refine ⟨_,_,_,rfl,(by conv=>lhs; simp [q1,q2,q3,q3',hm,h3,h4,h5,wv,ma,dv3,w3,mb,dv9,w9,mc,cD,hw,hx,g0,r1,r2,r3,wu]),fun _=>?_⟩
             refine allA_step 0 [] (by kernel_rfl) ?_
             intro i hi
             simp only [List.mem_cons,List.not_mem_nil,or_false] at hi
             subst hi
             refine ⟨_,_,_,rfl,(by conv=>lhs; simp [q1,q2,q3,q3',hm,h3,h4,h5,wv,ma,dv3,w3,mb,dv9,w9,mc,cD,hw,hx,g0,r1,r2,r3,wu]),fun _=>?_⟩
             refine allA_step 2 [4] (by kernel_rfl) ?_
             intro i hi
             simp only [List.mem_cons,List.not_mem_nil,or_false] at hi
             rcases hi with rfl | rfl
             · refine ⟨_,_,_,rfl,(by conv=>lhs; simp [q1,q2,q3,q3',hm,h3,h4,h5,wv,ma,dv3,w3,mb,dv9,w9,mc,cD,hw,hx,g0,r1,r2,r3,wu]),fun _=>?_⟩
               refine allA_step 3 [4] (by kernel_rfl) ?_
               intro i hi
               simp only [List.mem_cons,List.not_mem_nil,or_false] at hi
               rcases hi with rfl | rfl
               · refine ⟨_,_,_,rfl,(by conv=>lhs; simp [q1,q2,q3,q3',hm,h3,h4,h5,wv,ma,dv3,w3,mb,dv9,w9,mc,cD,hw,hx,g0,r1,r2,r3,wu]),fun _=>?_⟩
                 refine allA_step 4 [] (by kernel_rfl) ?_
                 intro i hi
                 simp only [List.mem_cons,List.not_mem_nil,or_false] at hi
                 subst hi
                 refine ⟨_,_,_,rfl,(by conv=>lhs; simp [q1,q2,q3,q3',hm,h3,h4,h5,wv,ma,dv3,w3,mb,dv9,w9,mc,cD,hw,hx,g0,r1,r2,r3,wu]),fun _=>?_⟩
                 refine allA_step 5 [] (by kernel_rfl) ?_
                 intro i hi
                 simp only [List.mem_cons,List.not_mem_nil,or_false] at hi
                 subst hi
                 refine ⟨_,_,_,rfl,(by conv=>lhs; simp [q1,q2,q3,q3',hm,h3,h4,h5,wv,ma,dv3,w3,mb,dv9,w9,mc,cD,hw,hx,g0,r1,r2,r3,wu]),fun _=>?_⟩
                 refine allA_step 6 [] (by kernel_rfl) ?_
                 intro i hi
                 simp only [List.mem_cons,List.not_mem_nil,or_false] at hi
                 subst hi
                 refine ⟨_,_,_,rfl,(by conv=>lhs; simp [q1,q2,q3,q3',hm,h3,h4,h5,wv,ma,dv3,w3,mb,dv9,w9,mc,cD,hw,hx,g0,r1,r2,r3,wu]),fun _=>?_⟩
                 refine allA_end (by kernel_rfl) ?_
                 exact AS.le_of rfl ⟨rfl,rfl,rfl,rfl,rfl,rfl,trivial⟩ (fun _=>rfl)
               · refine ⟨_,_,_,rfl,(by conv=>lhs; simp [q1,q2,q3,q3',hm,h3,h4,h5,wv,ma,dv3,w3,mb,dv9,w9,mc,cD,hw,hx,g0,r1,r2,r3,wu]),fun _=>?_⟩
                 refine allA_step 3 [5] (by kernel_rfl) ?_
                 intro i hi
                 simp only [List.mem_cons,List.not_mem_nil,or_false] at hi
                 rcases hi with rfl | rfl
                 · refine ⟨_,_,_,rfl,(by conv=>lhs; simp [q1,q2,q3,q3',hm,h3,h4,h5,wv,ma,dv3,w3,mb,dv9,w9,mc,cD,hw,hx,g0,r1,r2,r3,wu]),fun _=>?_⟩
                   refine allA_step 5 [] (by kernel_rfl) ?_
                   intro i hi
                   simp only [List.mem_cons,List.not_mem_nil,or_false] at hi
                   subst hi
                   refine ⟨_,_,_,rfl,(by conv=>lhs; simp [q1,q2,q3,q3',hm,h3,h4,h5,wv,ma,dv3,w3,mb,dv9,w9,mc,cD,hw,hx,g0,r1,r2,r3,wu]),fun _=>?_⟩
                   refine allA_step 6 [] (by kernel_rfl) ?_
                   intro i hi
                   simp only [List.mem_cons,List.not_mem_nil,or_false] at hi
                   subst hi
                   refine ⟨_,_,_,rfl,(by conv=>lhs; simp [q1,q2,q3,q3',hm,h3,h4,h5,wv,ma,dv3,w3,mb,dv9,w9,mc,cD,hw,hx,g0,r1,r2,r3,wu]),fun _=>?_⟩
                   refine allA_end (by kernel_rfl) ?_
                   exact AS.le_of rfl ⟨rfl,rfl,rfl,rfl,rfl,rfl,trivial⟩ (fun _=>rfl)
                 · refine ⟨_,_,_,rfl,(by conv=>lhs; simp [q1,q2,q3,q3',hm,h3,h4,h5,wv,ma,dv3,w3,mb,dv9,w9,mc,cD,hw,hx,g0,r1,r2,r3,wu]),fun _=>?_⟩
                   refine allA_step 3 [] (by kernel_rfl) ?_
                   intro i hi
                   simp only [List.mem_cons,List.not_mem_nil,or_false] at hi
                   subst hi
                   refine ⟨_,_,_,rfl,(by conv=>lhs; simp [q1,q2,q3,q3',hm,h3,h4,h5,wv,ma,dv3,w3,mb,dv9,w9,mc,cD,hw,hx,g0,r1,r2,r3,wu]),fun _=>?_⟩
                   refine allA_step 6 [] (by kernel_rfl) ?_
                   intro i hi
                   simp only [List.mem_cons,List.not_mem_nil,or_false] at hi
                   subst hi
                   refine ⟨_,_,_,rfl,(by conv=>lhs; simp [q1,q2,q3,q3',hm,h3,h4,h5,wv,ma,dv3,w3,mb,dv9,w9,mc,cD,hw,hx,g0,r1,r2,r3,wu]),fun _=>?_⟩
                   refine allA_end (by kernel_rfl) ?_
                   exact AS.le_of rfl ⟨rfl,rfl,rfl,rfl,rfl,rfl,trivial⟩ (fun _=>rfl)
             · refine ⟨_,_,_,rfl,(by conv=>lhs; simp [q1,q2,q3,q3',hm,h3,h4,h5,wv,ma,dv3,w3,mb,dv9,w9,mc,cD,hw,hx,g0,r1,r2,r3,wu]),fun _=>?_⟩
               refine allA_step 2 [5] (by kernel_rfl) ?_
               intro i hi
               simp only [List.mem_cons,List.not_mem_nil,or_false] at hi
               rcases hi with rfl | rfl
               · refine ⟨_,_,_,rfl,(by conv=>lhs; simp [q1,q2,q3,q3',hm,h3,h4,h5,wv,ma,dv3,w3,mb,dv9,w9,mc,cD,hw,hx,g0,r1,r2,r3,wu]),fun _=>?_⟩
                 refine allA_step 3 [5] (by kernel_rfl) ?_
                 intro i hi
                 simp only [List.mem_cons,List.not_mem_nil,or_false] at hi
                 rcases hi with rfl | rfl
                 · refine ⟨_,_,_,rfl,(by conv=>lhs; simp [q1,q2,q3,q3',hm,h3,h4,h5,wv,ma,dv3,w3,mb,dv9,w9,mc,cD,hw,hx,g0,r1,r2,r3,wu]),fun _=>?_⟩
                   refine allA_step 5 [] (by kernel_rfl) ?_
                   intro i hi
                   simp only [List.mem_cons,List.not_mem_nil,or_false] at hi
                   subst hi
                   refine ⟨_,_,_,rfl,(by conv=>lhs; simp [q1,q2,q3,q3',hm,h3,h4,h5,wv,ma,dv3,w3,mb,dv9,w9,mc,cD,hw,hx,g0,r1,r2,r3,wu]),fun _=>?_⟩
                   refine allA_step 6 [] (by kernel_rfl) ?_
                   intro i hi
                   simp only [List.mem_cons,List.not_mem_nil,or_false] at hi
                   subst hi
                   refine ⟨_,_,_,rfl,(by conv=>lhs; simp [q1,q2,q3,q3',hm,h3,h4,h5,wv,ma,dv3,w3,mb,dv9,w9,mc,cD,hw,hx,g0,r1,r2,r3,wu]),fun _=>?_⟩
                   refine allA_end (by kernel_rfl) ?_
                   exact AS.le_of rfl ⟨rfl,rfl,rfl,rfl,rfl,rfl,trivial⟩ (fun _=>rfl)
                 · refine ⟨_,_,_,rfl,(by conv=>lhs; simp [q1,q2,q3,q3',hm,h3,h4,h5,wv,ma,dv3,w3,mb,dv9,w9,mc,cD,hw,hx,g0,r1,r2,r3,wu]),fun _=>?_⟩
                   refine allA_step 3 [] (by kernel_rfl) ?_
                   intro i hi
                   simp only [List.mem_cons,List.not_mem_nil,or_false] at hi
                   subst hi
                   refine ⟨_,_,_,rfl,(by conv=>lhs; simp [q1,q2,q3,q3',hm,h3,h4,h5,wv,ma,dv3,w3,mb,dv9,w9,mc,cD,hw,hx,g0,r1,r2,r3,wu]),fun _=>?_⟩
                   refine allA_step 6 [] (by kernel_rfl) ?_
                   intro i hi
                   simp only [List.mem_cons,List.not_mem_nil,or_false] at hi
                   subst hi
                   refine ⟨_,_,_,rfl,(by conv=>lhs; simp [q1,q2,q3,q3',hm,h3,h4,h5,wv,ma,dv3,w3,mb,dv9,w9,mc,cD,hw,hx,g0,r1,r2,r3,wu]),fun _=>?_⟩
                   refine allA_end (by kernel_rfl) ?_
                   exact AS.le_of rfl ⟨rfl,rfl,rfl,rfl,rfl,rfl,trivial⟩ (fun _=>rfl)
               · refine ⟨_,_,_,rfl,(by conv=>lhs; simp [q1,q2,q3,q3',hm,h3,h4,h5,wv,ma,dv3,w3,mb,dv9,w9,mc,cD,hw,hx,g0,r1,r2,r3,wu]),fun _=>?_⟩
                 refine allA_step 2 [] (by kernel_rfl) ?_
                 intro i hi
                 simp only [List.mem_cons,List.not_mem_nil,or_false] at hi
                 subst hi
                 refine ⟨_,_,_,rfl,(by conv=>lhs; simp [q1,q2,q3,q3',hm,h3,h4,h5,wv,ma,dv3,w3,mb,dv9,w9,mc,cD,hw,hx,g0,r1,r2,r3,wu]),fun _=>?_⟩
                 refine allA_step 3 [] (by kernel_rfl) ?_
                 intro i hi
                 simp only [List.mem_cons,List.not_mem_nil,or_false] at hi
                 subst hi
                 refine ⟨_,_,_,rfl,(by conv=>lhs; simp [q1,q2,q3,q3',hm,h3,h4,h5,wv,ma,dv3,w3,mb,dv9,w9,mc,cD,hw,hx,g0,r1,r2,r3,wu]),fun _=>?_⟩
                 refine allA_step 6 [] (by kernel_rfl) ?_
                 intro i hi
                 simp only [List.mem_cons,List.not_mem_nil,or_false] at hi
                 subst hi
                 refine ⟨_,_,_,rfl,(by conv=>lhs; simp [q1,q2,q3,q3',hm,h3,h4,h5,wv,ma,dv3,w3,mb,dv9,w9,mc,cD,hw,hx,g0,r1,r2,r3,wu]),fun _=>?_⟩
                 refine allA_end (by kernel_rfl) ?_
                 exact AS.le_of rfl ⟨rfl,rfl,rfl,rfl,rfl,rfl,trivial⟩ (fun _=>rfl)
         repeat' (first | intro (hb : _ = _) | refine ZV ?_ | refine ZB tm sp ?_ | refine ZH ?_ ?_ | refine ZJ (by conv=>lhs; simp [hw]) ?_ | refine ZA ?_ ?_)
         exact ⟨⟨(k + 1,L,S,mInc (g1,g2) G,_),⟨hlt,k1⟩,e5,by simp [lk_st,nwB],by simp [lk_st,h4,mapB],by simp [lk_st,mapB]⟩,by dsimp only; omega,AS.le_of rfl ⟨rfl,rfl,rfl,rfl,rfl,rfl,trivial⟩ (fun _=>rfl)⟩
     · generalize dlvN ls a b = R at *
       obtain ⟨m,L,e⟩:=R
       dsimp only at e1
       obtain ⟨g1,g2,g3,g4,g5,o,g6,g7,g8,g9⟩:=m
       subst e1
       simp only [rDl,Msg.v] at cD
       repeat' (first | intro (hb : _ = _) | refine ZV ?_ | refine ZB tm sp ?_ | refine ZH ?_ ?_ | refine ZJ (by conv=>lhs; simp [q1,q2,q3,q3',hm,h3,h4,h5,wv,ma,dv3,w3,mb,dv9,w9,mc,cD,hw,e2]) ?_ | refine ZA ?_ ?_)
       exact ⟨⟨(k + 1,ls,S,G,_),⟨hlt,k1⟩,ho.mono (Nat.le_succ k),by simp [lk_st,h3,nwB],by simp [lk_st,h4,mapB],by simp [lk_st,h5,mapB]⟩,by dsimp only; omega,AS.le_of rfl ⟨rfl,rfl,rfl,rfl,rfl,rfl,trivial⟩ (fun _=>rfl)⟩
     · generalize dlvN ls a b = R at *
       obtain ⟨m,L,e⟩:=R
       dsimp only at e1
       obtain ⟨g1,g2,g3,g4,g5,o,g6,g7,g8,g9⟩:=m
       subst e1
       simp only [rDl,Msg.v] at cD
       repeat' (first | intro (hb : _ = _) | refine ZV ?_ | refine ZB tm sp ?_ | refine ZH ?_ ?_ | refine ZJ (by conv=>lhs; simp [q1,q2,q3,q3',hm,h3,h4,h5,wv,ma,dv3,w3,mb,dv9,w9,mc,cD,hw]) ?_ | refine ZA ?_ ?_)
       exact ⟨⟨(k + 1,ls,S,G,_),⟨hlt,k1⟩,ho.mono (Nat.le_succ k),by simp [lk_st,h3,nwB],by simp [lk_st,h4,mapB],by simp [lk_st,h5,mapB]⟩,by dsimp only; omega,AS.le_of rfl ⟨rfl,rfl,rfl,rfl,rfl,rfl,trivial⟩ (fun _=>rfl)⟩
   · obtain ⟨bb,hbb⟩ : ∃ x : Bool,(((k : Int).tmod 2) == 0) = x:=⟨_,rfl⟩
     have cC:=cutS_eq d8 a b bb
     simp only [Nt8.n,Nts.v,hd8] at cC
     rcases ord_cut ho (by omega) ra rb bb with ⟨e1, -,e3, -⟩ | ⟨e1,e2⟩
     · generalize cutN ls a b bb = R at *
       obtain ⟨L,e⟩:=R
       dsimp only at e1 e3
       subst e1
       simp only [rN] at cC
       repeat' (first | intro (hb : _ = _) | refine ZV ?_ | refine ZB tm sp ?_ | refine ZH ?_ ?_ | refine ZJ (by conv=>lhs; simp [q1,q2,q3,q3',hm,h3,h4,h5,wv,ma,dv3,w3,mb,dv9,w9,mc,cC,hw,hbb]) ?_ | refine ZA ?_ ?_)
       exact ⟨⟨(k + 1,L,S,G,_),⟨hlt,k1⟩,e3.mono (Nat.le_succ k),by simp [lk_st,nwB],by simp [lk_st,h4,mapB],by simp [lk_st,h5,mapB]⟩,by dsimp only; omega,AS.le_of rfl ⟨rfl,rfl,rfl,rfl,rfl,rfl,trivial⟩ (fun _=>rfl)⟩
     · generalize cutN ls a b bb = R at *
       obtain ⟨L,e⟩:=R
       dsimp only at e1
       subst e1 e2
       simp only [rN] at cC
       repeat' (first | intro (hb : _ = _) | refine ZV ?_ | refine ZB tm sp ?_ | refine ZH ?_ ?_ | refine ZJ (by conv=>lhs; simp [q1,q2,q3,q3',hm,h3,h4,h5,wv,ma,dv3,w3,mb,dv9,w9,mc,cC,hw,hbb]) ?_ | refine ZA ?_ ?_)
       exact ⟨⟨(k + 1,ls,S,G,_),⟨hlt,k1⟩,ho.mono (Nat.le_succ k),by simp [lk_st,h3,nwB],by simp [lk_st,h4,mapB],by simp [lk_st,h5,mapB]⟩,by dsimp only; omega,AS.le_of rfl ⟨rfl,rfl,rfl,rfl,rfl,rfl,trivial⟩ (fun _=>rfl)⟩
 clear cs hcap hl
 rintro σ' ⟨ls,S,G,H,ho,h3,h4,h5,hle⟩
 refine W.weak hle ?_
 clear hle
 exact nor2 ho h3 h4 h5
end
end Go.Abs.Nn
