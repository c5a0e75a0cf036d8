/- Networks: that messages come in order (the end of the walk). Conditions: none. -/
import Derived.Test.YtphclapfniepoaaNn4
import Derived.Test.YtphclapfniepoaaAb9
namespace Go.Abs.Nn
open Go Go.Proofs Go.Abs
set_option maxRecDepth 100000
set_option maxHeartbeats 4000000
set_option linter.unusedSimpArgs false
set_option linter.unusedVariables false
section
attribute [local simp] instA slice3A slice3C makeSliceA indexA
attribute [-simp] mkv foundA
attribute [local simp] mkv_hd hdA_cons hdA_ob hdA_ob' lookupA mapEntryA entryStoreA makeMapA keyOf2 keyOKX2 findX_mR foundM found1 found0 zeroU
def mapB (L : Mp) : ABlk := { gen := 1,kind := 3,elem := 0,size := 0,inl := false,rows := L.map mR }
def nwB (ls : List Lk) : ABlk := { gen := 1,kind := 2,elem := 26,size := 1,inl := false,rows := [[.list 4 (ls.map lkC)]] }
theorem nts0_nr : [[AV.nils]].map (nrmL Try.prog (leafs Try.prog 26)) = [[.list 4 (([] : List Lk).map lkC)]] := by
 rw [nwLeafs]
 simp only [List.map_cons,List.map_nil,nrmL,nrmV,uK,cK]
theorem Ord.nt8 {n : Nat} {ls : List Lk} {S G : Mp} (h : Ord n ls S G) (hn : n ≤ 4096) : ∃ d : Nt8,d.ls = ls := ⟨⟨ls,by have := h.v.len; omega,h.v.okK hn⟩,rfl⟩
theorem w8u {x : Int} (h0 : 0 ≤ x) (h1 : x ≤ 255) : IntKind.u8.wrap x = x := by
 simp only [IntKind.wrap,IntKind.signed,IntKind.bits]
 simp
 omega
theorem opsN {v : Int} (h0 : 0 ≤ v) (h1 : v ≤ 255) : ∃ a b c v3 v9 : Int,IntKind.i64.wrap v = v ∧ v.tmod 3 = a ∧ IntKind.u8.wrap (v.tdiv 3) = v3 ∧ IntKind.i64.wrap v3 = v3 ∧ v3.tmod 3 = b ∧ IntKind.u8.wrap (v.tdiv 9) = v9 ∧ IntKind.i64.wrap v9 = v9 ∧ v9.tmod 4 = c ∧ R3 a ∧ R3 b ∧ (c = 0 ∨ c = 1 ∨ c = 2 ∨ c = 3) := by
 have e3 : v.tdiv 3 = v / 3:=Int.tdiv_eq_ediv_of_nonneg h0
 have e9 : v.tdiv 9 = v / 9:=Int.tdiv_eq_ediv_of_nonneg h0
 refine ⟨v.tmod 3,(v / 3).tmod 3,(v / 9).tmod 4,v / 3,v / 9,w64 (by omega) (by omega),rfl, ?_,w64 (by omega) (by omega),rfl, ?_,w64 (by omega) (by omega),rfl, ?_, ?_, ?_⟩
 · rw [e3]
   exact w8u (by omega) (by omega)
 · rw [e9]
   exact w8u (by omega) (by omega)
 · rw [Int.tmod_eq_emod_of_nonneg h0]
   exact ⟨by omega,by omega⟩
 · rw [Int.tmod_eq_emod_of_nonneg (by omega)]
   exact ⟨by omega,by omega⟩
 · rw [Int.tmod_eq_emod_of_nonneg (by omega)]
   omega
abbrev Opn := {l : List UInt8 // l.length ≤ maxLen}
theorem dead_cut {ls L : List Lk} {a b : Int} (h : ∀ f t,fndK f t L = if (f = a ∧ t = b) ∨ (f = b ∧ t = a) then ⟨f,t,false,(fndK f t ls).q⟩ else fndK f t ls) {f t : Int} (hd : dead f t ls) : dead f t L := by
 unfold dead at hd ⊢
 rw [h]
 split
 · rw [hd]
 · exact hd
def lkB2 (g : Nat) (a b : Int) : ABlk := { gen := g,kind := 2,elem := 45,size := 2,inl := false,rows := [[.int .i64 a, .int .i64 b]] }
theorem nor2 {ls : List Lk} {S G : Mp} {H : NL ABlk} (ho : Ord 100 ls S G) (h3 : lk H 64 = some (nwB ls)) (h4 : lk H 432 = some (mapB S)) (h5 : lk H 448 = some (mapB G)) :
   W Try.prog (Ret Try.prog Try.f4 (.bool true) []) (cR (cR (cR (cR (cR (codeOf Try.f4)))))) [] ⟨218,[(3, .ptr 64 1 0 0),(4, .amap 432 1),(5, .amap 448 1)],H⟩:=by
 have sp : ∀ p ∈ ([(6,⟨1,sanS⟩),(8,⟨1,sdpN⟩),(9,⟨1,dlpS⟩),(12,⟨1,cutS⟩),(13,⟨1,rdyS⟩)] : NL Spec),FnC Try.prog p.1 p.2.fn:=by
   simp only [List.mem_cons,List.not_mem_nil,or_false]
   rintro p (rfl | rfl | rfl | rfl | rfl)
   · exact san_ok
   · exact sdpN_ok
   · exact dlp_ok
   · exact pct_ok
   · exact pry_ok
 repeat' (first | intro (hb : _ = _) | refine ZV ?_ | refine ZB (id:=33) tm sp ?_ | refine ZH ?_ ?_ | refine ZJ (by conv=>lhs; simp) ?_ | refine ZA ?_ ?_)
 refine W.loop rfl (ι:={ q : Nat × List Lk × Mp × NL ABlk // q.1 ≤ 3 ∧ Ord 100 q.2.1 S q.2.2.1 ∧ (∀ f t : Int,R3 f → R3 t → f < q.1 → dead f t q.2.1) ∧ lk q.2.2.2 64 = some (nwB q.2.1) ∧ lk q.2.2.2 432 = some (mapB S) ∧ lk q.2.2.2 448 = some (mapB q.2.2.1) })
   (fun q=>⟨218,[(3, .ptr 64 1 0 0),(4, .amap 432 1),(5, .amap 448 1),(16, .int .i64 (q.1.1 : Nat))],q.1.2.2.2⟩) (fun q=>3 - q.1.1)
   ⟨(0,ls,G,H),by dsimp only; omega,ho,fun f t hf _ h=>absurd hf.1 (by dsimp only at h; omega),h3,h4,h5⟩ (AS.le_of rfl ⟨rfl,rfl,rfl,rfl,trivial⟩ (fun _=>rfl)) ?_
 clear ho h3 h4 h5
 rintro ⟨⟨a,ls,G,H⟩,ha,ho,hd,h3,h4,h5⟩
 dsimp only at ha ho hd h3 h4 h5 ⊢
 by_cases ha3 : a = 3
 · subst ha3
   have hnil : ls = []:=ord_end ho fun f t hf ht=>hd f t hf ht (by have:=hf.2; omega)
   subst hnil
   have cR:=rdyS_eq ⟨[],by simp,by simp⟩
   have hr0 : rdyN [] = []:=by simp [rdyN,rdyL]
   simp only [Nts.v,hr0,List.map_nil] at cR
   simp only [nwB,List.map_nil] at h3
   repeat' (first | intro (hb : _ = _) | refine ZV ?_ | refine ZB tm sp ?_ | refine ZH ?_ ?_ | refine ZJ (by conv=>lhs; simp [h3,cR]) ?_ | refine ZA ?_ ?_)
   all_goals (first | refine Yd ?_ | refine Ye ?_)
   all_goals (first | rfl | (simp; done) | (simp_all; done) | (simp_all; omega))
 have qa : (a : Int) < 3:=by omega
 have hwa : IntKind.i64.wrap ((a : Int) + 1) = ((a + 1 : Nat) : Int):=w64 (by omega) (by omega)
 have ra : R3 (a : Int):=⟨by omega,by omega⟩
 repeat' (first | intro (hb : _ = _) | refine ZV ?_ | refine ZB (id:=34) tm sp ?_ | refine ZB (id:=35) tm sp ?_ | refine ZB (id:=36) tm sp ?_ | refine ZH ?_ ?_ | refine ZJ (by conv=>lhs; simp [qa]) ?_ | refine ZA ?_ ?_)
 refine W.loop rfl (ι:={ q : Nat × List Lk × Mp × NL ABlk // q.1 ≤ 3 ∧ Ord 100 q.2.1 S q.2.2.1 ∧ (∀ f t : Int,R3 f → R3 t → (f < a ∨ (f = a ∧ t < q.1)) → dead f t q.2.1) ∧ lk q.2.2.2 64 = some (nwB q.2.1) ∧ lk q.2.2.2 432 = some (mapB S) ∧ lk q.2.2.2 448 = some (mapB q.2.2.1) })
   (fun q=>⟨218,[(3, .ptr 64 1 0 0),(4, .amap 432 1),(5, .amap 448 1),(16, .int .i64 (a : Nat)),(17, .int .i64 (q.1.1 : Nat))],q.1.2.2.2⟩) (fun q=>3 - q.1.1)
   ⟨(0,ls,G,H),by dsimp only; omega,ho,fun f t hf ht h=>by
     rcases h with h | ⟨_,h⟩
     · exact hd f t hf ht h
     · exact absurd ht.1 (by dsimp only at h; omega),h3,h4,h5⟩ (AS.le_of rfl ⟨rfl,rfl,rfl,rfl,rfl,trivial⟩ (fun _=>rfl)) ?_
 clear ho h3 h4 h5 hd H ls G
 rintro ⟨⟨b,ls,G,H⟩,hb,ho,hd,h3,h4,h5⟩
 dsimp only at hb ho hd h3 h4 h5 ⊢
 by_cases hb3 : b = 3
 · subst hb3
   repeat' (first | intro (hb : _ = _) | refine ZV ?_ | refine ZB tm sp ?_ | refine ZH ?_ ?_ | refine ZJ (by conv=>lhs; simp [hwa]) ?_ | refine ZA ?_ ?_)
   exact ⟨⟨(a + 1,ls,G,_),by dsimp only; omega,ho,fun f t hf ht h=>hd f t hf ht (by dsimp only at h; have:=ht.2; omega),by simp [lk_st,h3],by simp [lk_st,h4],by simp [lk_st,h5]⟩,by dsimp only; omega,AS.le_of rfl ⟨rfl,rfl,rfl,rfl,trivial⟩ (fun _=>rfl)⟩
 have qb : (b : Int) < 3:=by omega
 have hwb : IntKind.i64.wrap ((b : Int) + 1) = ((b + 1 : Nat) : Int):=w64 (by omega) (by omega)
 have rb : R3 (b : Int):=⟨by omega,by omega⟩
 obtain ⟨d8,hd8⟩:=ho.nt8 (by omega)
 have cC:=cutS_eq d8 a b false
 simp only [Nt8.n,Nts.v,hd8] at cC
 have key : ∃ (L : List Lk),Ord 100 L S G ∧ (∀ f t : Int,R3 f → R3 t → (f < a ∨ (f = a ∧ t < b)) → dead f t L) ∧ (fndK a b L).cut = false ∧ ((cutN ls a b false = (L,0)) ∨ ((cutN ls a b false).2 = 2 ∧ L = ls)):=by
   rcases ord_cut ho (by omega) ra rb false with ⟨e1, -,e3,e4⟩ | ⟨e1,e2⟩
   · refine ⟨(cutN ls a b false).1,e3,fun f t hf ht h=>dead_cut e4 (hd f t hf ht h), ?_, .inl (Prod.ext rfl e1)⟩
     rw [e4,if_pos (.inl ⟨rfl,rfl⟩)]
   · exact ⟨ls,ho,hd,by rw [← e2]; exact ho.fcut _, .inr ⟨e1,rfl⟩⟩
 obtain ⟨L,o1,d1,c1,hcase⟩:=key
 simp only [nwB,mapB] at h3 h4 h5
 generalize cutN ls a b false = R at cC hcase
 obtain ⟨L',e⟩:=R
 simp only [rN] at cC
 clear ho hd hd8
 rcases hcase with hcase | ⟨hcase,rfl⟩
 · cases hcase
   repeat' (first | intro (hb : _ = _) | refine ZV ?_ | refine ZB (id:=37) tm sp ?_ | refine ZB (id:=38) tm sp ?_ | refine ZB (id:=39) tm sp ?_ | refine ZB (id:=40) tm sp ?_ | refine ZB (id:=41) tm sp ?_ | refine ZB (id:=42) tm sp ?_ | refine ZH ?_ ?_ | refine ZJ (by conv=>lhs; simp [qb,h3,cC]) ?_ | refine ZA ?_ ?_)
   generalize ((lk H 336).getD {}).gen + 1 = g at *
   refine W.loop rfl (ι:={ q : List Lk × Mp × NL ABlk // Ord 100 q.1 S q.2.1 ∧ (∀ f t : Int,R3 f → R3 t → (f < a ∨ (f = a ∧ t < b)) → dead f t q.1) ∧ (fndK a b q.1).cut = false ∧ lk q.2.2 64 = some (nwB q.1) ∧ lk q.2.2 432 = some (mapB S) ∧ lk q.2.2 448 = some (mapB q.2.1) ∧ lk q.2.2 336 = some (lkB2 g a b) })
     (fun q=>⟨218,[(3, .ptr 64 1 0 0),(4, .amap 432 1),(5, .amap 448 1),(16, .int .i64 (a : Nat)),(17, .int .i64 (b : Nat)),(20, .ptr 336 g 0 0)],q.1.2.2⟩) (fun q=>mGet ((a : Int),(b : Int)) S - mGet ((a : Int),(b : Int)) q.1.2.1)
     ⟨(L,G,_),o1,d1,c1,by simp [lk_st,nwB],by simp [lk_st,h4,mapB],by simp [lk_st,h5,mapB],by simp [lk_st,lkB2]⟩ (AS.le_of rfl ⟨rfl,rfl,rfl,rfl,rfl,rfl,trivial⟩ (fun _=>rfl)) ?_
   clear o1 d1 c1 h3 h4 h5 cC
   rintro ⟨⟨ls,G,H⟩,ho,hd,hc,h3,h4,h5,h20⟩
   dsimp only at ho hd hc h3 h4 h5 h20 ⊢
   simp only [nwB,mapB,lkB2] at h3 h4 h5 h20
   by_cases hlt : mGet ((a : Int),(b : Int)) G < mGet ((a : Int),(b : Int)) S
   · have q5 : ((mGet ((a : Int),(b : Int)) G : Nat) : Int) < (mGet ((a : Int),(b : Int)) S : Nat):=by omega
     have hgb:=ho.b ((a : Int),(b : Int))
     rcases ord_dlv ho (by omega) ra rb with ⟨e1,e2,e3,e4,e5,e6,e7, -⟩ | ⟨-,e1⟩ | ⟨-,e1⟩
     · obtain ⟨d8, hd8⟩ := ho.nt8 (by omega)
       have cD:=dlpS_eq d8 a b
       rw [hd8] at cD
       generalize dlvN ls a b = R at *
       obtain ⟨m,M,e⟩:=R
       dsimp only at e1 e2 e5 e6 e7
       obtain ⟨g1,g2,g3,g4,g5,o,g6,g7,g8,g9⟩:=m
       dsimp only at e2
       subst e1 e2
       simp only [rDl,Msg.v] at cD
       have hd2 : ∀ f t : Int,R3 f → R3 t → (f < a ∨ (f = a ∧ t < b)) → dead f t M:=fun f t hf ht h=>by
         unfold dead
         rw [e7 f t (fun e=>by simp only [Prod.mk.injEq] at e; omega)]
         exact hd f t hf ht h
       have hc2 : (fndK a b M).cut = false:=by rw [e6]
       have hm2 : mGet ((a : Int),(b : Int)) S - mGet ((a : Int),(b : Int)) (mInc ((a : Int),(b : Int)) G) < mGet ((a : Int),(b : Int)) S - mGet ((a : Int),(b : Int)) G:=by
         rw [mGet_inc,if_pos rfl]
         omega
       clear hd hc e3 e4 e6 e7 hd8
       cases hx : mIx ((a : Int),(b : Int)) G 0 with
       | none =>
         obtain ⟨g0,r0,r1,r2⟩:=mrow_none hx
         have wu : IntKind.u64.wrap 1 = 1:=by decide
         have hlt0 : 0 < mGet ((a : Int),(b : Int)) S:=by omega
         rw [g0,show ((0 : Nat) : Int) = 0 from rfl] at cD q5
         repeat' (first | intro (hb : _ = _) | refine ZV ?_ | refine ZB (id:=43) tm sp ?_ | refine ZB (id:=44) tm sp ?_ | refine ZB (id:=45) tm sp ?_ | refine ZB (id:=46) tm sp ?_ | refine ZB (id:=47) tm sp ?_ | refine ZH ?_ ?_ | refine ZJ (by conv=>lhs; simp [h3,h4,h5,h20,cD,q5,g0,hlt0]) ?_ | refine ZA ?_ ?_)
         apply W.regionH (id:=48) (n:=218) (ts:=[(3, .ptr 64 1 0 0),(4, .amap 432 1),(5, .amap 448 1),(16, .int .i64 (a : Nat)),(17, .int .i64 (b : Nat)),(20, .ptr 336 g 0 0)]) tm sp rfl
         case ha =>
           show allA _ _ _ _ _ 7 _ _
           refine allA_step 0 [1] (by kernel_rfl) ?_
           intro i hi
           simp only [List.mem_cons,List.not_mem_nil,or_false] at hi
           rcases hi with rfl | rfl
           · refine ⟨_,_,_,rfl,(by conv=>lhs; simp [h3,h4,h5,h20,hx,g0,r0,r1,r2,wu]),fun _=>?_⟩
             refine allA_step 1 [] (by kernel_rfl) ?_
             intro i hi
             simp only [List.mem_cons,List.not_mem_nil,or_false] at hi
             subst hi
             refine ⟨_,_,_,rfl,(by conv=>lhs; simp [h3,h4,h5,h20,hx,g0,r0,r1,r2,wu]),fun _=>?_⟩
             refine allA_step 2 [4] (by kernel_rfl) ?_
             intro i hi
             simp only [List.mem_cons,List.not_mem_nil,or_false] at hi
             rcases hi with rfl | rfl
             · refine ⟨_,_,_,rfl,(by conv=>lhs; simp [h3,h4,h5,h20,hx,g0,r0,r1,r2,wu]),fun _=>?_⟩
               refine allA_step 3 [4] (by kernel_rfl) ?_
               intro i hi
               simp only [List.mem_cons,List.not_mem_nil,or_false] at hi
               rcases hi with rfl | rfl
               · refine ⟨_,_,_,rfl,(by conv=>lhs; simp [h3,h4,h5,h20,hx,g0,r0,r1,r2,wu]),fun _=>?_⟩
                 refine allA_step 4 [] (by kernel_rfl) ?_
                 intro i hi
                 simp only [List.mem_cons,List.not_mem_nil,or_false] at hi
                 subst hi
                 refine ⟨_,_,_,rfl,(by conv=>lhs; simp [h3,h4,h5,h20,hx,g0,r0,r1,r2,wu]),fun _=>?_⟩
                 refine allA_step 5 [] (by kernel_rfl) ?_
                 intro i hi
                 simp only [List.mem_cons,List.not_mem_nil,or_false] at hi
                 subst hi
                 refine ⟨_,_,_,rfl,(by conv=>lhs; simp [h3,h4,h5,h20,hx,g0,r0,r1,r2,wu]),fun _=>?_⟩
                 refine allA_step 6 [] (by kernel_rfl) ?_
                 intro i hi
                 simp only [List.mem_cons,List.not_mem_nil,or_false] at hi
                 subst hi
                 refine ⟨_,_,_,rfl,(by conv=>lhs; simp [h3,h4,h5,h20,hx,g0,r0,r1,r2,wu]),fun _=>?_⟩
                 refine allA_end (by kernel_rfl) ?_
                 exact AS.le_of rfl ⟨rfl,rfl,rfl,rfl,rfl,rfl,trivial⟩ (fun _=>rfl)
               · refine ⟨_,_,_,rfl,(by conv=>lhs; simp [h3,h4,h5,h20,hx,g0,r0,r1,r2,wu]),fun _=>?_⟩
                 refine allA_step 3 [5] (by kernel_rfl) ?_
                 intro i hi
                 simp only [List.mem_cons,List.not_mem_nil,or_false] at hi
                 rcases hi with rfl | rfl
                 · refine ⟨_,_,_,rfl,(by conv=>lhs; simp [h3,h4,h5,h20,hx,g0,r0,r1,r2,wu]),fun _=>?_⟩
                   refine allA_step 5 [] (by kernel_rfl) ?_
                   intro i hi
                   simp only [List.mem_cons,List.not_mem_nil,or_false] at hi
                   subst hi
                   refine ⟨_,_,_,rfl,(by conv=>lhs; simp [h3,h4,h5,h20,hx,g0,r0,r1,r2,wu]),fun _=>?_⟩
                   refine allA_step 6 [] (by kernel_rfl) ?_
                   intro i hi
                   simp only [List.mem_cons,List.not_mem_nil,or_false] at hi
                   subst hi
                   refine ⟨_,_,_,rfl,(by conv=>lhs; simp [h3,h4,h5,h20,hx,g0,r0,r1,r2,wu]),fun _=>?_⟩
                   refine allA_end (by kernel_rfl) ?_
                   exact AS.le_of rfl ⟨rfl,rfl,rfl,rfl,rfl,rfl,trivial⟩ (fun _=>rfl)
                 · refine ⟨_,_,_,rfl,(by conv=>lhs; simp [h3,h4,h5,h20,hx,g0,r0,r1,r2,wu]),fun _=>?_⟩
                   refine allA_step 3 [] (by kernel_rfl) ?_
                   intro i hi
                   simp only [List.mem_cons,List.not_mem_nil,or_false] at hi
                   subst hi
                   refine ⟨_,_,_,rfl,(by conv=>lhs; simp [h3,h4,h5,h20,hx,g0,r0,r1,r2,wu]),fun _=>?_⟩
                   refine allA_step 6 [] (by kernel_rfl) ?_
                   intro i hi
                   simp only [List.mem_cons,List.not_mem_nil,or_false] at hi
                   subst hi
                   refine ⟨_,_,_,rfl,(by conv=>lhs; simp [h3,h4,h5,h20,hx,g0,r0,r1,r2,wu]),fun _=>?_⟩
                   refine allA_end (by kernel_rfl) ?_
                   exact AS.le_of rfl ⟨rfl,rfl,rfl,rfl,rfl,rfl,trivial⟩ (fun _=>rfl)
             · refine ⟨_,_,_,rfl,(by conv=>lhs; simp [h3,h4,h5,h20,hx,g0,r0,r1,r2,wu]),fun _=>?_⟩
               refine allA_step 2 [5] (by kernel_rfl) ?_
               intro i hi
               simp only [List.mem_cons,List.not_mem_nil,or_false] at hi
               rcases hi with rfl | rfl
               · refine ⟨_,_,_,rfl,(by conv=>lhs; simp [h3,h4,h5,h20,hx,g0,r0,r1,r2,wu]),fun _=>?_⟩
                 refine allA_step 3 [5] (by kernel_rfl) ?_
                 intro i hi
                 simp only [List.mem_cons,List.not_mem_nil,or_false] at hi
                 rcases hi with rfl | rfl
                 · refine ⟨_,_,_,rfl,(by conv=>lhs; simp [h3,h4,h5,h20,hx,g0,r0,r1,r2,wu]),fun _=>?_⟩
                   refine allA_step 5 [] (by kernel_rfl) ?_
                   intro i hi
                   simp only [List.mem_cons,List.not_mem_nil,or_false] at hi
                   subst hi
                   refine ⟨_,_,_,rfl,(by conv=>lhs; simp [h3,h4,h5,h20,hx,g0,r0,r1,r2,wu]),fun _=>?_⟩
                   refine allA_step 6 [] (by kernel_rfl) ?_
                   intro i hi
                   simp only [List.mem_cons,List.not_mem_nil,or_false] at hi
                   subst hi
                   refine ⟨_,_,_,rfl,(by conv=>lhs; simp [h3,h4,h5,h20,hx,g0,r0,r1,r2,wu]),fun _=>?_⟩
                   refine allA_end (by kernel_rfl) ?_
                   exact AS.le_of rfl ⟨rfl,rfl,rfl,rfl,rfl,rfl,trivial⟩ (fun _=>rfl)
                 · refine ⟨_,_,_,rfl,(by conv=>lhs; simp [h3,h4,h5,h20,hx,g0,r0,r1,r2,wu]),fun _=>?_⟩
                   refine allA_step 3 [] (by kernel_rfl) ?_
                   intro i hi
                   simp only [List.mem_cons,List.not_mem_nil,or_false] at hi
                   subst hi
                   refine ⟨_,_,_,rfl,(by conv=>lhs; simp [h3,h4,h5,h20,hx,g0,r0,r1,r2,wu]),fun _=>?_⟩
                   refine allA_step 6 [] (by kernel_rfl) ?_
                   intro i hi
                   simp only [List.mem_cons,List.not_mem_nil,or_false] at hi
                   subst hi
                   refine ⟨_,_,_,rfl,(by conv=>lhs; simp [h3,h4,h5,h20,hx,g0,r0,r1,r2,wu]),fun _=>?_⟩
                   refine allA_end (by kernel_rfl) ?_
                   exact AS.le_of rfl ⟨rfl,rfl,rfl,rfl,rfl,rfl,trivial⟩ (fun _=>rfl)
               · refine ⟨_,_,_,rfl,(by conv=>lhs; simp [h3,h4,h5,h20,hx,g0,r0,r1,r2,wu]),fun _=>?_⟩
                 refine allA_step 2 [] (by kernel_rfl) ?_
                 intro i hi
                 simp only [List.mem_cons,List.not_mem_nil,or_false] at hi
                 subst hi
                 refine ⟨_,_,_,rfl,(by conv=>lhs; simp [h3,h4,h5,h20,hx,g0,r0,r1,r2,wu]),fun _=>?_⟩
                 refine allA_step 3 [] (by kernel_rfl) ?_
                 intro i hi
                 simp only [List.mem_cons,List.not_mem_nil,or_false] at hi
                 subst hi
                 refine ⟨_,_,_,rfl,(by conv=>lhs; simp [h3,h4,h5,h20,hx,g0,r0,r1,r2,wu]),fun _=>?_⟩
                 refine allA_step 6 [] (by kernel_rfl) ?_
                 intro i hi
                 simp only [List.mem_cons,List.not_mem_nil,or_false] at hi
                 subst hi
                 refine ⟨_,_,_,rfl,(by conv=>lhs; simp [h3,h4,h5,h20,hx,g0,r0,r1,r2,wu]),fun _=>?_⟩
                 refine allA_end (by kernel_rfl) ?_
                 exact AS.le_of rfl ⟨rfl,rfl,rfl,rfl,rfl,rfl,trivial⟩ (fun _=>rfl)
           · refine ⟨_,_,_,rfl,(by conv=>lhs; simp [h3,h4,h5,h20,hx,g0,r0,r1,r2,wu]),fun _=>?_⟩
             refine allA_step 0 [] (by kernel_rfl) ?_
             intro i hi
             simp only [List.mem_cons,List.not_mem_nil,or_false] at hi
             subst hi
             refine ⟨_,_,_,rfl,(by conv=>lhs; simp [h3,h4,h5,h20,hx,g0,r0,r1,r2,wu]),fun _=>?_⟩
             refine allA_step 2 [4] (by kernel_rfl) ?_
             intro i hi
             simp only [List.mem_cons,List.not_mem_nil,or_false] at hi
             rcases hi with rfl | rfl
             · refine ⟨_,_,_,rfl,(by conv=>lhs; simp [h3,h4,h5,h20,hx,g0,r0,r1,r2,wu]),fun _=>?_⟩
               refine allA_step 3 [4] (by kernel_rfl) ?_
               intro i hi
               simp only [List.mem_cons,List.not_mem_nil,or_false] at hi
               rcases hi with rfl | rfl
               · refine ⟨_,_,_,rfl,(by conv=>lhs; simp [h3,h4,h5,h20,hx,g0,r0,r1,r2,wu]),fun _=>?_⟩
                 refine allA_step 4 [] (by kernel_rfl) ?_
                 intro i hi
                 simp only [List.mem_cons,List.not_mem_nil,or_false] at hi
                 subst hi
                 refine ⟨_,_,_,rfl,(by conv=>lhs; simp [h3,h4,h5,h20,hx,g0,r0,r1,r2,wu]),fun _=>?_⟩
                 refine allA_step 5 [] (by kernel_rfl) ?_
                 intro i hi
                 simp only [List.mem_cons,List.not_mem_nil,or_false] at hi
                 subst hi
                 refine ⟨_,_,_,rfl,(by conv=>lhs; simp [h3,h4,h5,h20,hx,g0,r0,r1,r2,wu]),fun _=>?_⟩
                 refine allA_step 6 [] (by kernel_rfl) ?_
                 intro i hi
                 simp only [List.mem_cons,List.not_mem_nil,or_false] at hi
                 subst hi
                 refine ⟨_,_,_,rfl,(by conv=>lhs; simp [h3,h4,h5,h20,hx,g0,r0,r1,r2,wu]),fun _=>?_⟩
                 refine allA_end (by kernel_rfl) ?_
                 exact AS.le_of rfl ⟨rfl,rfl,rfl,rfl,rfl,rfl,trivial⟩ (fun _=>rfl)
               · refine ⟨_,_,_,rfl,(by conv=>lhs; simp [h3,h4,h5,h20,hx,g0,r0,r1,r2,wu]),fun _=>?_⟩
                 refine allA_step 3 [5] (by kernel_rfl) ?_
                 intro i hi
                 simp only [List.mem_cons,List.not_mem_nil,or_false] at hi
                 rcases hi with rfl | rfl
                 · refine ⟨_,_,_,rfl,(by conv=>lhs; simp [h3,h4,h5,h20,hx,g0,r0,r1,r2,wu]),fun _=>?_⟩
                   refine allA_step 5 [] (by kernel_rfl) ?_
                   intro i hi
                   simp only [List.mem_cons,List.not_mem_nil,or_false] at hi
                   subst hi
                   refine ⟨_,_,_,rfl,(by conv=>lhs; simp [h3,h4,h5,h20,hx,g0,r0,r1,r2,wu]),fun _=>?_⟩
                   refine allA_step 6 [] (by kernel_rfl) ?_
                   intro i hi
                   simp only [List.mem_cons,List.not_mem_nil,or_false] at hi
                   subst hi
                   refine ⟨_,_,_,rfl,(by conv=>lhs; simp [h3,h4,h5,h20,hx,g0,r0,r1,r2,wu]),fun _=>?_⟩
                   refine allA_end (by kernel_rfl) ?_
                   exact AS.le_of rfl ⟨rfl,rfl,rfl,rfl,rfl,rfl,trivial⟩ (fun _=>rfl)
                 · refine ⟨_,_,_,rfl,(by conv=>lhs; simp [h3,h4,h5,h20,hx,g0,r0,r1,r2,wu]),fun _=>?_⟩
                   refine allA_step 3 [] (by kernel_rfl) ?_
                   intro i hi
                   simp only [List.mem_cons,List.not_mem_nil,or_false] at hi
                   subst hi
                   refine ⟨_,_,_,rfl,(by conv=>lhs; simp [h3,h4,h5,h20,hx,g0,r0,r1,r2,wu]),fun _=>?_⟩
                   refine allA_step 6 [] (by kernel_rfl) ?_
                   intro i hi
                   simp only [List.mem_cons,List.not_mem_nil,or_false] at hi
                   subst hi
                   refine ⟨_,_,_,rfl,(by conv=>lhs; simp [h3,h4,h5,h20,hx,g0,r0,r1,r2,wu]),fun _=>?_⟩
                   refine allA_end (by kernel_rfl) ?_
                   exact AS.le_of rfl ⟨rfl,rfl,rfl,rfl,rfl,rfl,trivial⟩ (fun _=>rfl)
             · refine ⟨_,_,_,rfl,(by conv=>lhs; simp [h3,h4,h5,h20,hx,g0,r0,r1,r2,wu]),fun _=>?_⟩
               refine allA_step 2 [5] (by kernel_rfl) ?_
               intro i hi
               simp only [List.mem_cons,List.not_mem_nil,or_false] at hi
               rcases hi with rfl | rfl
               · refine ⟨_,_,_,rfl,(by conv=>lhs; simp [h3,h4,h5,h20,hx,g0,r0,r1,r2,wu]),fun _=>?_⟩
                 refine allA_step 3 [5] (by kernel_rfl) ?_
                 intro i hi
                 simp only [List.mem_cons,List.not_mem_nil,or_false] at hi
                 rcases hi with rfl | rfl
                 · refine ⟨_,_,_,rfl,(by conv=>lhs; simp [h3,h4,h5,h20,hx,g0,r0,r1,r2,wu]),fun _=>?_⟩
                   refine allA_step 5 [] (by kernel_rfl) ?_
                   intro i hi
                   simp only [List.mem_cons,List.not_mem_nil,or_false] at hi
                   subst hi
                   refine ⟨_,_,_,rfl,(by conv=>lhs; simp [h3,h4,h5,h20,hx,g0,r0,r1,r2,wu]),fun _=>?_⟩
                   refine allA_step 6 [] (by kernel_rfl) ?_
                   intro i hi
                   simp only [List.mem_cons,List.not_mem_nil,or_false] at hi
                   subst hi
                   refine ⟨_,_,_,rfl,(by conv=>lhs; simp [h3,h4,h5,h20,hx,g0,r0,r1,r2,wu]),fun _=>?_⟩
                   refine allA_end (by kernel_rfl) ?_
                   exact AS.le_of rfl ⟨rfl,rfl,rfl,rfl,rfl,rfl,trivial⟩ (fun _=>rfl)
                 · refine ⟨_,_,_,rfl,(by conv=>lhs; simp [h3,h4,h5,h20,hx,g0,r0,r1,r2,wu]),fun _=>?_⟩
                   refine allA_step 3 [] (by kernel_rfl) ?_
                   intro i hi
                   simp only [List.mem_cons,List.not_mem_nil,or_false] at hi
                   subst hi
                   refine ⟨_,_,_,rfl,(by conv=>lhs; simp [h3,h4,h5,h20,hx,g0,r0,r1,r2,wu]),fun _=>?_⟩
                   refine allA_step 6 [] (by kernel_rfl) ?_
                   intro i hi
                   simp only [List.mem_cons,List.not_mem_nil,or_false] at hi
                   subst hi
                   refine ⟨_,_,_,rfl,(by conv=>lhs; simp [h3,h4,h5,h20,hx,g0,r0,r1,r2,wu]),fun _=>?_⟩
                   refine allA_end (by kernel_rfl) ?_
                   exact AS.le_of rfl ⟨rfl,rfl,rfl,rfl,rfl,rfl,trivial⟩ (fun _=>rfl)
               · refine ⟨_,_,_,rfl,(by conv=>lhs; simp [h3,h4,h5,h20,hx,g0,r0,r1,r2,wu]),fun _=>?_⟩
                 refine allA_step 2 [] (by kernel_rfl) ?_
                 intro i hi
                 simp only [List.mem_cons,List.not_mem_nil,or_false] at hi
                 subst hi
                 refine ⟨_,_,_,rfl,(by conv=>lhs; simp [h3,h4,h5,h20,hx,g0,r0,r1,r2,wu]),fun _=>?_⟩
                 refine allA_step 3 [] (by kernel_rfl) ?_
                 intro i hi
                 simp only [List.mem_cons,List.not_mem_nil,or_false] at hi
                 subst hi
                 refine ⟨_,_,_,rfl,(by conv=>lhs; simp [h3,h4,h5,h20,hx,g0,r0,r1,r2,wu]),fun _=>?_⟩
                 refine allA_step 6 [] (by kernel_rfl) ?_
                 intro i hi
                 simp only [List.mem_cons,List.not_mem_nil,or_false] at hi
                 subst hi
                 refine ⟨_,_,_,rfl,(by conv=>lhs; simp [h3,h4,h5,h20,hx,g0,r0,r1,r2,wu]),fun _=>?_⟩
                 refine allA_end (by kernel_rfl) ?_
                 exact AS.le_of rfl ⟨rfl,rfl,rfl,rfl,rfl,rfl,trivial⟩ (fun _=>rfl)
         repeat' (first | intro (hb : _ = _) | refine ZV ?_ | refine ZB tm sp ?_ | refine ZH ?_ ?_ | refine ZJ (by conv=>lhs; simp [h3]) ?_ | refine ZA ?_ ?_)
         exact ⟨⟨(M,mInc ((a : Int),(b : Int)) G,_),e5,hd2,hc2,by simp [lk_st,nwB],by simp [lk_st,h4,mapB],by simp [lk_st,mapB],by simp [lk_st,h20,lkB2]⟩,hm2,AS.le_of rfl ⟨rfl,rfl,rfl,rfl,rfl,rfl,trivial⟩ (fun _=>rfl)⟩
       | some x =>
         obtain ⟨j,n⟩:=x
         obtain ⟨g0,r1,r2,r3⟩:=mrow_some hx
         have wu : IntKind.u64.wrap ((n : Int) + 1) = (n : Int) + 1:=wu64 (by omega) (by omega)
         rw [g0] at cD q5
         repeat' (first | intro (hb : _ = _) | refine ZV ?_ | refine ZB (id:=43) tm sp ?_ | refine ZB (id:=44) tm sp ?_ | refine ZB (id:=45) tm sp ?_ | refine ZB (id:=46) tm sp ?_ | refine ZB (id:=47) tm sp ?_ | refine ZH ?_ ?_ | refine ZJ (by conv=>lhs; simp [h3,h4,h5,h20,cD,q5,g0,hlt]) ?_ | refine ZA ?_ ?_)
         apply W.regionH (id:=48) (n:=218) (ts:=[(3, .ptr 64 1 0 0),(4, .amap 432 1),(5, .amap 448 1),(16, .int .i64 (a : Nat)),(17, .int .i64 (b : Nat)),(20, .ptr 336 g 0 0)]) tm sp rfl
         case ha =>
           show allA _ _ _ _ _ 7 _ _
           refine allA_step 0 [1] (by kernel_rfl) ?_
           intro i hi
           simp only [List.mem_cons,List.not_mem_nil,or_false] at hi
           rcases hi with rfl | rfl
           · refine ⟨_,_,_,rfl,(by conv=>lhs; simp [h3,h4,h5,h20,hx,g0,r1,r2,r3,wu]),fun _=>?_⟩
             refine allA_step 1 [] (by kernel_rfl) ?_
             intro i hi
             simp only [List.mem_cons,List.not_mem_nil,or_false] at hi
             subst hi
             refine ⟨_,_,_,rfl,(by conv=>lhs; simp [h3,h4,h5,h20,hx,g0,r1,r2,r3,wu]),fun _=>?_⟩
             refine allA_step 2 [4] (by kernel_rfl) ?_
             intro i hi
             simp only [List.mem_cons,List.not_mem_nil,or_false] at hi
             rcases hi with rfl | rfl
             · refine ⟨_,_,_,rfl,(by conv=>lhs; simp [h3,h4,h5,h20,hx,g0,r1,r2,r3,wu]),fun _=>?_⟩
               refine allA_step 3 [4] (by kernel_rfl) ?_
               intro i hi
               simp only [List.mem_cons,List.not_mem_nil,or_false] at hi
               rcases hi with rfl | rfl
               · refine ⟨_,_,_,rfl,(by conv=>lhs; simp [h3,h4,h5,h20,hx,g0,r1,r2,r3,wu]),fun _=>?_⟩
                 refine allA_step 4 [] (by kernel_rfl) ?_
                 intro i hi
                 simp only [List.mem_cons,List.not_mem_nil,or_false] at hi
                 subst hi
                 refine ⟨_,_,_,rfl,(by conv=>lhs; simp [h3,h4,h5,h20,hx,g0,r1,r2,r3,wu]),fun _=>?_⟩
                 refine allA_step 5 [] (by kernel_rfl) ?_
                 intro i hi
                 simp only [List.mem_cons,List.not_mem_nil,or_false] at hi
                 subst hi
                 refine ⟨_,_,_,rfl,(by conv=>lhs; simp [h3,h4,h5,h20,hx,g0,r1,r2,r3,wu]),fun _=>?_⟩
                 refine allA_step 6 [] (by kernel_rfl) ?_
                 intro i hi
                 simp only [List.mem_cons,List.not_mem_nil,or_false] at hi
                 subst hi
                 refine ⟨_,_,_,rfl,(by conv=>lhs; simp [h3,h4,h5,h20,hx,g0,r1,r2,r3,wu]),fun _=>?_⟩
                 refine allA_end (by kernel_rfl) ?_
                 exact AS.le_of rfl ⟨rfl,rfl,rfl,rfl,rfl,rfl,trivial⟩ (fun _=>rfl)
               · refine ⟨_,_,_,rfl,(by conv=>lhs; simp [h3,h4,h5,h20,hx,g0,r1,r2,r3,wu]),fun _=>?_⟩
                 refine allA_step 3 [5] (by kernel_rfl) ?_
                 intro i hi
                 simp only [List.mem_cons,List.not_mem_nil,or_false] at hi
                 rcases hi with rfl | rfl
                 · refine ⟨_,_,_,rfl,(by conv=>lhs; simp [h3,h4,h5,h20,hx,g0,r1,r2,r3,wu]),fun _=>?_⟩
                   refine allA_step 5 [] (by kernel_rfl) ?_
                   intro i hi
                   simp only [List.mem_cons,List.not_mem_nil,or_false] at hi
                   subst hi
                   refine ⟨_,_,_,rfl,(by conv=>lhs; simp [h3,h4,h5,h20,hx,g0,r1,r2,r3,wu]),fun _=>?_⟩
                   refine allA_step 6 [] (by kernel_rfl) ?_
                   intro i hi
                   simp only [List.mem_cons,List.not_mem_nil,or_false] at hi
                   subst hi
                   refine ⟨_,_,_,rfl,(by conv=>lhs; simp [h3,h4,h5,h20,hx,g0,r1,r2,r3,wu]),fun _=>?_⟩
                   refine allA_end (by kernel_rfl) ?_
                   exact AS.le_of rfl ⟨rfl,rfl,rfl,rfl,rfl,rfl,trivial⟩ (fun _=>rfl)
                 · refine ⟨_,_,_,rfl,(by conv=>lhs; simp [h3,h4,h5,h20,hx,g0,r1,r2,r3,wu]),fun _=>?_⟩
                   refine allA_step 3 [] (by kernel_rfl) ?_
                   intro i hi
                   simp only [List.mem_cons,List.not_mem_nil,or_false] at hi
                   subst hi
                   refine ⟨_,_,_,rfl,(by conv=>lhs; simp [h3,h4,h5,h20,hx,g0,r1,r2,r3,wu]),fun _=>?_⟩
                   refine allA_step 6 [] (by kernel_rfl) ?_
                   intro i hi
                   simp only [List.mem_cons,List.not_mem_nil,or_false] at hi
                   subst hi
                   refine ⟨_,_,_,rfl,(by conv=>lhs; simp [h3,h4,h5,h20,hx,g0,r1,r2,r3,wu]),fun _=>?_⟩
                   refine allA_end (by kernel_rfl) ?_
                   exact AS.le_of rfl ⟨rfl,rfl,rfl,rfl,rfl,rfl,trivial⟩ (fun _=>rfl)
             · refine ⟨_,_,_,rfl,(by conv=>lhs; simp [h3,h4,h5,h20,hx,g0,r1,r2,r3,wu]),fun _=>?_⟩
               refine allA_step 2 [5] (by kernel_rfl) ?_
               intro i hi
               simp only [List.mem_cons,List.not_mem_nil,or_false] at hi
               rcases hi with rfl | rfl
               · refine ⟨_,_,_,rfl,(by conv=>lhs; simp [h3,h4,h5,h20,hx,g0,r1,r2,r3,wu]),fun _=>?_⟩
                 refine allA_step 3 [5] (by kernel_rfl) ?_
                 intro i hi
                 simp only [List.mem_cons,List.not_mem_nil,or_false] at hi
                 rcases hi with rfl | rfl
                 · refine ⟨_,_,_,rfl,(by conv=>lhs; simp [h3,h4,h5,h20,hx,g0,r1,r2,r3,wu]),fun _=>?_⟩
                   refine allA_step 5 [] (by kernel_rfl) ?_
                   intro i hi
                   simp only [List.mem_cons,List.not_mem_nil,or_false] at hi
                   subst hi
                   refine ⟨_,_,_,rfl,(by conv=>lhs; simp [h3,h4,h5,h20,hx,g0,r1,r2,r3,wu]),fun _=>?_⟩
                   refine allA_step 6 [] (by kernel_rfl) ?_
                   intro i hi
                   simp only [List.mem_cons,List.not_mem_nil,or_false] at hi
                   subst hi
                   refine ⟨_,_,_,rfl,(by conv=>lhs; simp [h3,h4,h5,h20,hx,g0,r1,r2,r3,wu]),fun _=>?_⟩
                   refine allA_end (by kernel_rfl) ?_
                   exact AS.le_of rfl ⟨rfl,rfl,rfl,rfl,rfl,rfl,trivial⟩ (fun _=>rfl)
                 · refine ⟨_,_,_,rfl,(by conv=>lhs; simp [h3,h4,h5,h20,hx,g0,r1,r2,r3,wu]),fun _=>?_⟩
                   refine allA_step 3 [] (by kernel_rfl) ?_
                   intro i hi
                   simp only [List.mem_cons,List.not_mem_nil,or_false] at hi
                   subst hi
                   refine ⟨_,_,_,rfl,(by conv=>lhs; simp [h3,h4,h5,h20,hx,g0,r1,r2,r3,wu]),fun _=>?_⟩
                   refine allA_step 6 [] (by kernel_rfl) ?_
                   intro i hi
                   simp only [List.mem_cons,List.not_mem_nil,or_false] at hi
                   subst hi
                   refine ⟨_,_,_,rfl,(by conv=>lhs; simp [h3,h4,h5,h20,hx,g0,r1,r2,r3,wu]),fun _=>?_⟩
                   refine allA_end (by kernel_rfl) ?_
                   exact AS.le_of rfl ⟨rfl,rfl,rfl,rfl,rfl,rfl,trivial⟩ (fun _=>rfl)
               · refine ⟨_,_,_,rfl,(by conv=>lhs; simp [h3,h4,h5,h20,hx,g0,r1,r2,r3,wu]),fun _=>?_⟩
                 refine allA_step 2 [] (by kernel_rfl) ?_
                 intro i hi
                 simp only [List.mem_cons,List.not_mem_nil,or_false] at hi
                 subst hi
                 refine ⟨_,_,_,rfl,(by conv=>lhs; simp [h3,h4,h5,h20,hx,g0,r1,r2,r3,wu]),fun _=>?_⟩
                 refine allA_step 3 [] (by kernel_rfl) ?_
                 intro i hi
                 simp only [List.mem_cons,List.not_mem_nil,or_false] at hi
                 subst hi
                 refine ⟨_,_,_,rfl,(by conv=>lhs; simp [h3,h4,h5,h20,hx,g0,r1,r2,r3,wu]),fun _=>?_⟩
                 refine allA_step 6 [] (by kernel_rfl) ?_
                 intro i hi
                 simp only [List.mem_cons,List.not_mem_nil,or_false] at hi
                 subst hi
                 refine ⟨_,_,_,rfl,(by conv=>lhs; simp [h3,h4,h5,h20,hx,g0,r1,r2,r3,wu]),fun _=>?_⟩
                 refine allA_end (by kernel_rfl) ?_
                 exact AS.le_of rfl ⟨rfl,rfl,rfl,rfl,rfl,rfl,trivial⟩ (fun _=>rfl)
           · refine ⟨_,_,_,rfl,(by conv=>lhs; simp [h3,h4,h5,h20,hx,g0,r1,r2,r3,wu]),fun _=>?_⟩
             refine allA_step 0 [] (by kernel_rfl) ?_
             intro i hi
             simp only [List.mem_cons,List.not_mem_nil,or_false] at hi
             subst hi
             refine ⟨_,_,_,rfl,(by conv=>lhs; simp [h3,h4,h5,h20,hx,g0,r1,r2,r3,wu]),fun _=>?_⟩
             refine allA_step 2 [4] (by kernel_rfl) ?_
             intro i hi
             simp only [List.mem_cons,List.not_mem_nil,or_false] at hi
             rcases hi with rfl | rfl
             · refine ⟨_,_,_,rfl,(by conv=>lhs; simp [h3,h4,h5,h20,hx,g0,r1,r2,r3,wu]),fun _=>?_⟩
               refine allA_step 3 [4] (by kernel_rfl) ?_
               intro i hi
               simp only [List.mem_cons,List.not_mem_nil,or_false] at hi
               rcases hi with rfl | rfl
               · refine ⟨_,_,_,rfl,(by conv=>lhs; simp [h3,h4,h5,h20,hx,g0,r1,r2,r3,wu]),fun _=>?_⟩
                 refine allA_step 4 [] (by kernel_rfl) ?_
                 intro i hi
                 simp only [List.mem_cons,List.not_mem_nil,or_false] at hi
                 subst hi
                 refine ⟨_,_,_,rfl,(by conv=>lhs; simp [h3,h4,h5,h20,hx,g0,r1,r2,r3,wu]),fun _=>?_⟩
                 refine allA_step 5 [] (by kernel_rfl) ?_
                 intro i hi
                 simp only [List.mem_cons,List.not_mem_nil,or_false] at hi
                 subst hi
                 refine ⟨_,_,_,rfl,(by conv=>lhs; simp [h3,h4,h5,h20,hx,g0,r1,r2,r3,wu]),fun _=>?_⟩
                 refine allA_step 6 [] (by kernel_rfl) ?_
                 intro i hi
                 simp only [List.mem_cons,List.not_mem_nil,or_false] at hi
                 subst hi
                 refine ⟨_,_,_,rfl,(by conv=>lhs; simp [h3,h4,h5,h20,hx,g0,r1,r2,r3,wu]),fun _=>?_⟩
                 refine allA_end (by kernel_rfl) ?_
                 exact AS.le_of rfl ⟨rfl,rfl,rfl,rfl,rfl,rfl,trivial⟩ (fun _=>rfl)
               · refine ⟨_,_,_,rfl,(by conv=>lhs; simp [h3,h4,h5,h20,hx,g0,r1,r2,r3,wu]),fun _=>?_⟩
                 refine allA_step 3 [5] (by kernel_rfl) ?_
                 intro i hi
                 simp only [List.mem_cons,List.not_mem_nil,or_false] at hi
                 rcases hi with rfl | rfl
                 · refine ⟨_,_,_,rfl,(by conv=>lhs; simp [h3,h4,h5,h20,hx,g0,r1,r2,r3,wu]),fun _=>?_⟩
                   refine allA_step 5 [] (by kernel_rfl) ?_
                   intro i hi
                   simp only [List.mem_cons,List.not_mem_nil,or_false] at hi
                   subst hi
                   refine ⟨_,_,_,rfl,(by conv=>lhs; simp [h3,h4,h5,h20,hx,g0,r1,r2,r3,wu]),fun _=>?_⟩
                   refine allA_step 6 [] (by kernel_rfl) ?_
                   intro i hi
                   simp only [List.mem_cons,List.not_mem_nil,or_false] at hi
                   subst hi
                   refine ⟨_,_,_,rfl,(by conv=>lhs; simp [h3,h4,h5,h20,hx,g0,r1,r2,r3,wu]),fun _=>?_⟩
                   refine allA_end (by kernel_rfl) ?_
                   exact AS.le_of rfl ⟨rfl,rfl,rfl,rfl,rfl,rfl,trivial⟩ (fun _=>rfl)
                 · refine ⟨_,_,_,rfl,(by conv=>lhs; simp [h3,h4,h5,h20,hx,g0,r1,r2,r3,wu]),fun _=>?_⟩
                   refine allA_step 3 [] (by kernel_rfl) ?_
                   intro i hi
                   simp only [List.mem_cons,List.not_mem_nil,or_false] at hi
                   subst hi
                   refine ⟨_,_,_,rfl,(by conv=>lhs; simp [h3,h4,h5,h20,hx,g0,r1,r2,r3,wu]),fun _=>?_⟩
                   refine allA_step 6 [] (by kernel_rfl) ?_
                   intro i hi
                   simp only [List.mem_cons,List.not_mem_nil,or_false] at hi
                   subst hi
                   refine ⟨_,_,_,rfl,(by conv=>lhs; simp [h3,h4,h5,h20,hx,g0,r1,r2,r3,wu]),fun _=>?_⟩
                   refine allA_end (by kernel_rfl) ?_
                   exact AS.le_of rfl ⟨rfl,rfl,rfl,rfl,rfl,rfl,trivial⟩ (fun _=>rfl)
             · refine ⟨_,_,_,rfl,(by conv=>lhs; simp [h3,h4,h5,h20,hx,g0,r1,r2,r3,wu]),fun _=>?_⟩
               refine allA_step 2 [5] (by kernel_rfl) ?_
               intro i hi
               simp only [List.mem_cons,List.not_mem_nil,or_false] at hi
               rcases hi with rfl | rfl
               · refine ⟨_,_,_,rfl,(by conv=>lhs; simp [h3,h4,h5,h20,hx,g0,r1,r2,r3,wu]),fun _=>?_⟩
                 refine allA_step 3 [5] (by kernel_rfl) ?_
                 intro i hi
                 simp only [List.mem_cons,List.not_mem_nil,or_false] at hi
                 rcases hi with rfl | rfl
                 · refine ⟨_,_,_,rfl,(by conv=>lhs; simp [h3,h4,h5,h20,hx,g0,r1,r2,r3,wu]),fun _=>?_⟩
                   refine allA_step 5 [] (by kernel_rfl) ?_
                   intro i hi
                   simp only [List.mem_cons,List.not_mem_nil,or_false] at hi
                   subst hi
                   refine ⟨_,_,_,rfl,(by conv=>lhs; simp [h3,h4,h5,h20,hx,g0,r1,r2,r3,wu]),fun _=>?_⟩
                   refine allA_step 6 [] (by kernel_rfl) ?_
                   intro i hi
                   simp only [List.mem_cons,List.not_mem_nil,or_false] at hi
                   subst hi
                   refine ⟨_,_,_,rfl,(by conv=>lhs; simp [h3,h4,h5,h20,hx,g0,r1,r2,r3,wu]),fun _=>?_⟩
                   refine allA_end (by kernel_rfl) ?_
                   exact AS.le_of rfl ⟨rfl,rfl,rfl,rfl,rfl,rfl,trivial⟩ (fun _=>rfl)
                 · refine ⟨_,_,_,rfl,(by conv=>lhs; simp [h3,h4,h5,h20,hx,g0,r1,r2,r3,wu]),fun _=>?_⟩
                   refine allA_step 3 [] (by kernel_rfl) ?_
                   intro i hi
                   simp only [List.mem_cons,List.not_mem_nil,or_false] at hi
                   subst hi
                   refine ⟨_,_,_,rfl,(by conv=>lhs; simp [h3,h4,h5,h20,hx,g0,r1,r2,r3,wu]),fun _=>?_⟩
                   refine allA_step 6 [] (by kernel_rfl) ?_
                   intro i hi
                   simp only [List.mem_cons,List.not_mem_nil,or_false] at hi
                   subst hi
                   refine ⟨_,_,_,rfl,(by conv=>lhs; simp [h3,h4,h5,h20,hx,g0,r1,r2,r3,wu]),fun _=>?_⟩
                   refine allA_end (by kernel_rfl) ?_
                   exact AS.le_of rfl ⟨rfl,rfl,rfl,rfl,rfl,rfl,trivial⟩ (fun _=>rfl)
               · refine ⟨_,_,_,rfl,(by conv=>lhs; simp [h3,h4,h5,h20,hx,g0,r1,r2,r3,wu]),fun _=>?_⟩
                 refine allA_step 2 [] (by kernel_rfl) ?_
                 intro i hi
                 simp only [List.mem_cons,List.not_mem_nil,or_false] at hi
                 subst hi
                 refine ⟨_,_,_,rfl,(by conv=>lhs; simp [h3,h4,h5,h20,hx,g0,r1,r2,r3,wu]),fun _=>?_⟩
                 refine allA_step 3 [] (by kernel_rfl) ?_
                 intro i hi
                 simp only [List.mem_cons,List.not_mem_nil,or_false] at hi
                 subst hi
                 refine ⟨_,_,_,rfl,(by conv=>lhs; simp [h3,h4,h5,h20,hx,g0,r1,r2,r3,wu]),fun _=>?_⟩
                 refine allA_step 6 [] (by kernel_rfl) ?_
                 intro i hi
                 simp only [List.mem_cons,List.not_mem_nil,or_false] at hi
                 subst hi
                 refine ⟨_,_,_,rfl,(by conv=>lhs; simp [h3,h4,h5,h20,hx,g0,r1,r2,r3,wu]),fun _=>?_⟩
                 refine allA_end (by kernel_rfl) ?_
                 exact AS.le_of rfl ⟨rfl,rfl,rfl,rfl,rfl,rfl,trivial⟩ (fun _=>rfl)
         repeat' (first | intro (hb : _ = _) | refine ZV ?_ | refine ZB tm sp ?_ | refine ZH ?_ ?_ | refine ZJ (by conv=>lhs; simp [h3]) ?_ | refine ZA ?_ ?_)
         exact ⟨⟨(M,mInc ((a : Int),(b : Int)) G,_),e5,hd2,hc2,by simp [lk_st,nwB],by simp [lk_st,h4,mapB],by simp [lk_st,mapB],by simp [lk_st,h20,lkB2]⟩,hm2,AS.le_of rfl ⟨rfl,rfl,rfl,rfl,rfl,rfl,trivial⟩ (fun _=>rfl)⟩
     · omega
     · rw [hc] at e1
       cases e1
   · have q5 : ¬ ((mGet ((a : Int),(b : Int)) G : Nat) : Int) < (mGet ((a : Int),(b : Int)) S : Nat):=by omega
     have hq:=ho.q a b
     have hdead : dead a b ls:=by
       have h1 : (fndK a b ls).q = []:=List.eq_nil_of_length_eq_zero (by have:=hq.1; omega)
       have h2:=fnd_ft (l:=ls) (a : Int) (b : Int)
       unfold dead
       generalize fndK a b ls = x at *
       obtain ⟨x1,x2,x3,x4⟩:=x
       dsimp only at h1 h2 hc
       rw [h1,h2.1,h2.2,hc]
     repeat' (first | intro (hb : _ = _) | refine ZV ?_ | refine ZB tm sp ?_ | refine ZH ?_ ?_ | refine ZJ (by conv=>lhs; simp [h3,h4,h5,h20,q5,hlt,hwb]) ?_ | refine ZA ?_ ?_)
     exact ⟨⟨(b + 1,ls,G,_),by dsimp only; omega,ho,fun f t hf ht h=>by
       by_cases e : f = a ∧ t = b
       · rw [e.1,e.2]
         exact hdead
       · exact hd f t hf ht (by dsimp only at h; omega),by simp [lk_st,h3,nwB],by simp [lk_st,h4,mapB],by simp [lk_st,h5,mapB]⟩,by dsimp only; omega,AS.le_of rfl ⟨rfl,rfl,rfl,rfl,rfl,trivial⟩ (fun _=>rfl)⟩
 · dsimp only at hcase
   subst hcase
   repeat' (first | intro (hb : _ = _) | refine ZV ?_ | refine ZB (id:=37) tm sp ?_ | refine ZB (id:=38) tm sp ?_ | refine ZB (id:=39) tm sp ?_ | refine ZB (id:=40) tm sp ?_ | refine ZB (id:=41) tm sp ?_ | refine ZB (id:=42) tm sp ?_ | refine ZH ?_ ?_ | refine ZJ (by conv=>lhs; simp [qb,h3,cC]) ?_ | refine ZA ?_ ?_)
   generalize ((lk H 336).getD {}).gen + 1 = g at *
   refine W.loop rfl (ι:={ q : List Lk × Mp × NL ABlk // Ord 100 q.1 S q.2.1 ∧ (∀ f t : Int,R3 f → R3 t → (f < a ∨ (f = a ∧ t < b)) → dead f t q.1) ∧ (fndK a b q.1).cut = false ∧ lk q.2.2 64 = some (nwB q.1) ∧ lk q.2.2 432 = some (mapB S) ∧ lk q.2.2 448 = some (mapB q.2.1) ∧ lk q.2.2 336 = some (lkB2 g a b) })
     (fun q=>⟨218,[(3, .ptr 64 1 0 0),(4, .amap 432 1),(5, .amap 448 1),(16, .int .i64 (a : Nat)),(17, .int .i64 (b : Nat)),(20, .ptr 336 g 0 0)],q.1.2.2⟩) (fun q=>mGet ((a : Int),(b : Int)) S - mGet ((a : Int),(b : Int)) q.1.2.1)
     ⟨(L,G,_),o1,d1,c1,by simp [lk_st,h3,nwB],by simp [lk_st,h4,mapB],by simp [lk_st,h5,mapB],by simp [lk_st,lkB2]⟩ (AS.le_of rfl ⟨rfl,rfl,rfl,rfl,rfl,rfl,trivial⟩ (fun _=>rfl)) ?_
   clear o1 d1 c1 h3 h4 h5 cC
   rintro ⟨⟨ls,G,H⟩,ho,hd,hc,h3,h4,h5,h20⟩
   dsimp only at ho hd hc h3 h4 h5 h20 ⊢
   simp only [nwB,mapB,lkB2] at h3 h4 h5 h20
   by_cases hlt : mGet ((a : Int),(b : Int)) G < mGet ((a : Int),(b : Int)) S
   · have q5 : ((mGet ((a : Int),(b : Int)) G : Nat) : Int) < (mGet ((a : Int),(b : Int)) S : Nat):=by omega
     have hgb:=ho.b ((a : Int),(b : Int))
     rcases ord_dlv ho (by omega) ra rb with ⟨e1,e2,e3,e4,e5,e6,e7, -⟩ | ⟨-,e1⟩ | ⟨-,e1⟩
     · obtain ⟨d8, hd8⟩ := ho.nt8 (by omega)
       have cD:=dlpS_eq d8 a b
       rw [hd8] at cD
       generalize dlvN ls a b = R at *
       obtain ⟨m,M,e⟩:=R
       dsimp only at e1 e2 e5 e6 e7
       obtain ⟨g1,g2,g3,g4,g5,o,g6,g7,g8,g9⟩:=m
       dsimp only at e2
       subst e1 e2
       simp only [rDl,Msg.v] at cD
       have hd2 : ∀ f t : Int,R3 f → R3 t → (f < a ∨ (f = a ∧ t < b)) → dead f t M:=fun f t hf ht h=>by
         unfold dead
         rw [e7 f t (fun e=>by simp only [Prod.mk.injEq] at e; omega)]
         exact hd f t hf ht h
       have hc2 : (fndK a b M).cut = false:=by rw [e6]
       have hm2 : mGet ((a : Int),(b : Int)) S - mGet ((a : Int),(b : Int)) (mInc ((a : Int),(b : Int)) G) < mGet ((a : Int),(b : Int)) S - mGet ((a : Int),(b : Int)) G:=by
         rw [mGet_inc,if_pos rfl]
         omega
       clear hd hc e3 e4 e6 e7 hd8
       cases hx : mIx ((a : Int),(b : Int)) G 0 with
       | none =>
         obtain ⟨g0,r0,r1,r2⟩:=mrow_none hx
         have wu : IntKind.u64.wrap 1 = 1:=by decide
         have hlt0 : 0 < mGet ((a : Int),(b : Int)) S:=by omega
         rw [g0,show ((0 : Nat) : Int) = 0 from rfl] at cD q5
         repeat' (first | intro (hb : _ = _) | refine ZV ?_ | refine ZB (id:=43) tm sp ?_ | refine ZB (id:=44) tm sp ?_ | refine ZB (id:=45) tm sp ?_ | refine ZB (id:=46) tm sp ?_ | refine ZB (id:=47) tm sp ?_ | refine ZH ?_ ?_ | refine ZJ (by conv=>lhs; simp [h3,h4,h5,h20,cD,q5,g0,hlt0]) ?_ | refine ZA ?_ ?_)
         apply W.regionH (id:=48) (n:=218) (ts:=[(3, .ptr 64 1 0 0),(4, .amap 432 1),(5, .amap 448 1),(16, .int .i64 (a : Nat)),(17, .int .i64 (b : Nat)),(20, .ptr 336 g 0 0)]) tm sp rfl
         case ha =>
           show allA _ _ _ _ _ 7 _ _
           refine allA_step 0 [1] (by kernel_rfl) ?_
           intro i hi
           simp only [List.mem_cons,List.not_mem_nil,or_false] at hi
           rcases hi with rfl | rfl
           · refine ⟨_,_,_,rfl,(by conv=>lhs; simp [h3,h4,h5,h20,hx,g0,r0,r1,r2,wu]),fun _=>?_⟩
             refine allA_step 1 [] (by kernel_rfl) ?_
             intro i hi
             simp only [List.mem_cons,List.not_mem_nil,or_false] at hi
             subst hi
             refine ⟨_,_,_,rfl,(by conv=>lhs; simp [h3,h4,h5,h20,hx,g0,r0,r1,r2,wu]),fun _=>?_⟩
             refine allA_step 2 [4] (by kernel_rfl) ?_
             intro i hi
             simp only [List.mem_cons,List.not_mem_nil,or_false] at hi
             rcases hi with rfl | rfl
             · refine ⟨_,_,_,rfl,(by conv=>lhs; simp [h3,h4,h5,h20,hx,g0,r0,r1,r2,wu]),fun _=>?_⟩
               refine allA_step 3 [4] (by kernel_rfl) ?_
               intro i hi
               simp only [List.mem_cons,List.not_mem_nil,or_false] at hi
               rcases hi with rfl | rfl
               · refine ⟨_,_,_,rfl,(by conv=>lhs; simp [h3,h4,h5,h20,hx,g0,r0,r1,r2,wu]),fun _=>?_⟩
                 refine allA_step 4 [] (by kernel_rfl) ?_
                 intro i hi
                 simp only [List.mem_cons,List.not_mem_nil,or_false] at hi
                 subst hi
                 refine ⟨_,_,_,rfl,(by conv=>lhs; simp [h3,h4,h5,h20,hx,g0,r0,r1,r2,wu]),fun _=>?_⟩
                 refine allA_step 5 [] (by kernel_rfl) ?_
                 intro i hi
                 simp only [List.mem_cons,List.not_mem_nil,or_false] at hi
                 subst hi
                 refine ⟨_,_,_,rfl,(by conv=>lhs; simp [h3,h4,h5,h20,hx,g0,r0,r1,r2,wu]),fun _=>?_⟩
                 refine allA_step 6 [] (by kernel_rfl) ?_
                 intro i hi
                 simp only [List.mem_cons,List.not_mem_nil,or_false] at hi
                 subst hi
                 refine ⟨_,_,_,rfl,(by conv=>lhs; simp [h3,h4,h5,h20,hx,g0,r0,r1,r2,wu]),fun _=>?_⟩
                 refine allA_end (by kernel_rfl) ?_
                 exact AS.le_of rfl ⟨rfl,rfl,rfl,rfl,rfl,rfl,trivial⟩ (fun _=>rfl)
               · refine ⟨_,_,_,rfl,(by conv=>lhs; simp [h3,h4,h5,h20,hx,g0,r0,r1,r2,wu]),fun _=>?_⟩
                 refine allA_step 3 [5] (by kernel_rfl) ?_
                 intro i hi
                 simp only [List.mem_cons,List.not_mem_nil,or_false] at hi
                 rcases hi with rfl | rfl
                 · refine ⟨_,_,_,rfl,(by conv=>lhs; simp [h3,h4,h5,h20,hx,g0,r0,r1,r2,wu]),fun _=>?_⟩
                   refine allA_step 5 [] (by kernel_rfl) ?_
                   intro i hi
                   simp only [List.mem_cons,List.not_mem_nil,or_false] at hi
                   subst hi
                   refine ⟨_,_,_,rfl,(by conv=>lhs; simp [h3,h4,h5,h20,hx,g0,r0,r1,r2,wu]),fun _=>?_⟩
                   refine allA_step 6 [] (by kernel_rfl) ?_
                   intro i hi
                   simp only [List.mem_cons,List.not_mem_nil,or_false] at hi
                   subst hi
                   refine ⟨_,_,_,rfl,(by conv=>lhs; simp [h3,h4,h5,h20,hx,g0,r0,r1,r2,wu]),fun _=>?_⟩
                   refine allA_end (by kernel_rfl) ?_
                   exact AS.le_of rfl ⟨rfl,rfl,rfl,rfl,rfl,rfl,trivial⟩ (fun _=>rfl)
                 · refine ⟨_,_,_,rfl,(by conv=>lhs; simp [h3,h4,h5,h20,hx,g0,r0,r1,r2,wu]),fun _=>?_⟩
                   refine allA_step 3 [] (by kernel_rfl) ?_
                   intro i hi
                   simp only [List.mem_cons,List.not_mem_nil,or_false] at hi
                   subst hi
                   refine ⟨_,_,_,rfl,(by conv=>lhs; simp [h3,h4,h5,h20,hx,g0,r0,r1,r2,wu]),fun _=>?_⟩
                   refine allA_step 6 [] (by kernel_rfl) ?_
                   intro i hi
                   simp only [List.mem_cons,List.not_mem_nil,or_false] at hi
                   subst hi
                   refine ⟨_,_,_,rfl,(by conv=>lhs; simp [h3,h4,h5,h20,hx,g0,r0,r1,r2,wu]),fun _=>?_⟩
                   refine allA_end (by kernel_rfl) ?_
                   exact AS.le_of rfl ⟨rfl,rfl,rfl,rfl,rfl,rfl,trivial⟩ (fun _=>rfl)
             · refine ⟨_,_,_,rfl,(by conv=>lhs; simp [h3,h4,h5,h20,hx,g0,r0,r1,r2,wu]),fun _=>?_⟩
               refine allA_step 2 [5] (by kernel_rfl) ?_
               intro i hi
               simp only [List.mem_cons,List.not_mem_nil,or_false] at hi
               rcases hi with rfl | rfl
               · refine ⟨_,_,_,rfl,(by conv=>lhs; simp [h3,h4,h5,h20,hx,g0,r0,r1,r2,wu]),fun _=>?_⟩
                 refine allA_step 3 [5] (by kernel_rfl) ?_
                 intro i hi
                 simp only [List.mem_cons,List.not_mem_nil,or_false] at hi
                 rcases hi with rfl | rfl
                 · refine ⟨_,_,_,rfl,(by conv=>lhs; simp [h3,h4,h5,h20,hx,g0,r0,r1,r2,wu]),fun _=>?_⟩
                   refine allA_step 5 [] (by kernel_rfl) ?_
                   intro i hi
                   simp only [List.mem_cons,List.not_mem_nil,or_false] at hi
                   subst hi
                   refine ⟨_,_,_,rfl,(by conv=>lhs; simp [h3,h4,h5,h20,hx,g0,r0,r1,r2,wu]),fun _=>?_⟩
                   refine allA_step 6 [] (by kernel_rfl) ?_
                   intro i hi
                   simp only [List.mem_cons,List.not_mem_nil,or_false] at hi
                   subst hi
                   refine ⟨_,_,_,rfl,(by conv=>lhs; simp [h3,h4,h5,h20,hx,g0,r0,r1,r2,wu]),fun _=>?_⟩
                   refine allA_end (by kernel_rfl) ?_
                   exact AS.le_of rfl ⟨rfl,rfl,rfl,rfl,rfl,rfl,trivial⟩ (fun _=>rfl)
                 · refine ⟨_,_,_,rfl,(by conv=>lhs; simp [h3,h4,h5,h20,hx,g0,r0,r1,r2,wu]),fun _=>?_⟩
                   refine allA_step 3 [] (by kernel_rfl) ?_
                   intro i hi
                   simp only [List.mem_cons,List.not_mem_nil,or_false] at hi
                   subst hi
                   refine ⟨_,_,_,rfl,(by conv=>lhs; simp [h3,h4,h5,h20,hx,g0,r0,r1,r2,wu]),fun _=>?_⟩
                   refine allA_step 6 [] (by kernel_rfl) ?_
                   intro i hi
                   simp only [List.mem_cons,List.not_mem_nil,or_false] at hi
                   subst hi
                   refine ⟨_,_,_,rfl,(by conv=>lhs; simp [h3,h4,h5,h20,hx,g0,r0,r1,r2,wu]),fun _=>?_⟩
                   refine allA_end (by kernel_rfl) ?_
                   exact AS.le_of rfl ⟨rfl,rfl,rfl,rfl,rfl,rfl,trivial⟩ (fun _=>rfl)
               · refine ⟨_,_,_,rfl,(by conv=>lhs; simp [h3,h4,h5,h20,hx,g0,r0,r1,r2,wu]),fun _=>?_⟩
                 refine allA_step 2 [] (by kernel_rfl) ?_
                 intro i hi
                 simp only [List.mem_cons,List.not_mem_nil,or_false] at hi
                 subst hi
                 refine ⟨_,_,_,rfl,(by conv=>lhs; simp [h3,h4,h5,h20,hx,g0,r0,r1,r2,wu]),fun _=>?_⟩
                 refine allA_step 3 [] (by kernel_rfl) ?_
                 intro i hi
                 simp only [List.mem_cons,List.not_mem_nil,or_false] at hi
                 subst hi
                 refine ⟨_,_,_,rfl,(by conv=>lhs; simp [h3,h4,h5,h20,hx,g0,r0,r1,r2,wu]),fun _=>?_⟩
                 refine allA_step 6 [] (by kernel_rfl) ?_
                 intro i hi
                 simp only [List.mem_cons,List.not_mem_nil,or_false] at hi
                 subst hi
                 refine ⟨_,_,_,rfl,(by conv=>lhs; simp [h3,h4,h5,h20,hx,g0,r0,r1,r2,wu]),fun _=>?_⟩
                 refine allA_end (by kernel_rfl) ?_
                 exact AS.le_of rfl ⟨rfl,rfl,rfl,rfl,rfl,rfl,trivial⟩ (fun _=>rfl)
           · refine ⟨_,_,_,rfl,(by conv=>lhs; simp [h3,h4,h5,h20,hx,g0,r0,r1,r2,wu]),fun _=>?_⟩
             refine allA_step 0 [] (by kernel_rfl) ?_
             intro i hi
             simp only [List.mem_cons,List.not_mem_nil,or_false] at hi
             subst hi
             refine ⟨_,_,_,rfl,(by conv=>lhs; simp [h3,h4,h5,h20,hx,g0,r0,r1,r2,wu]),fun _=>?_⟩
             refine allA_step 2 [4] (by kernel_rfl) ?_
             intro i hi
             simp only [List.mem_cons,List.not_mem_nil,or_false] at hi
             rcases hi with rfl | rfl
             · refine ⟨_,_,_,rfl,(by conv=>lhs; simp [h3,h4,h5,h20,hx,g0,r0,r1,r2,wu]),fun _=>?_⟩
               refine allA_step 3 [4] (by kernel_rfl) ?_
               intro i hi
               simp only [List.mem_cons,List.not_mem_nil,or_false] at hi
               rcases hi with rfl | rfl
               · refine ⟨_,_,_,rfl,(by conv=>lhs; simp [h3,h4,h5,h20,hx,g0,r0,r1,r2,wu]),fun _=>?_⟩
                 refine allA_step 4 [] (by kernel_rfl) ?_
                 intro i hi
                 simp only [List.mem_cons,List.not_mem_nil,or_false] at hi
                 subst hi
                 refine ⟨_,_,_,rfl,(by conv=>lhs; simp [h3,h4,h5,h20,hx,g0,r0,r1,r2,wu]),fun _=>?_⟩
                 refine allA_step 5 [] (by kernel_rfl) ?_
                 intro i hi
                 simp only [List.mem_cons,List.not_mem_nil,or_false] at hi
                 subst hi
                 refine ⟨_,_,_,rfl,(by conv=>lhs; simp [h3,h4,h5,h20,hx,g0,r0,r1,r2,wu]),fun _=>?_⟩
                 refine allA_step 6 [] (by kernel_rfl) ?_
                 intro i hi
                 simp only [List.mem_cons,List.not_mem_nil,or_false] at hi
                 subst hi
                 refine ⟨_,_,_,rfl,(by conv=>lhs; simp [h3,h4,h5,h20,hx,g0,r0,r1,r2,wu]),fun _=>?_⟩
                 refine allA_end (by kernel_rfl) ?_
                 exact AS.le_of rfl ⟨rfl,rfl,rfl,rfl,rfl,rfl,trivial⟩ (fun _=>rfl)
               · refine ⟨_,_,_,rfl,(by conv=>lhs; simp [h3,h4,h5,h20,hx,g0,r0,r1,r2,wu]),fun _=>?_⟩
                 refine allA_step 3 [5] (by kernel_rfl) ?_
                 intro i hi
                 simp only [List.mem_cons,List.not_mem_nil,or_false] at hi
                 rcases hi with rfl | rfl
                 · refine ⟨_,_,_,rfl,(by conv=>lhs; simp [h3,h4,h5,h20,hx,g0,r0,r1,r2,wu]),fun _=>?_⟩
                   refine allA_step 5 [] (by kernel_rfl) ?_
                   intro i hi
                   simp only [List.mem_cons,List.not_mem_nil,or_false] at hi
                   subst hi
                   refine ⟨_,_,_,rfl,(by conv=>lhs; simp [h3,h4,h5,h20,hx,g0,r0,r1,r2,wu]),fun _=>?_⟩
                   refine allA_step 6 [] (by kernel_rfl) ?_
                   intro i hi
                   simp only [List.mem_cons,List.not_mem_nil,or_false] at hi
                   subst hi
                   refine ⟨_,_,_,rfl,(by conv=>lhs; simp [h3,h4,h5,h20,hx,g0,r0,r1,r2,wu]),fun _=>?_⟩
                   refine allA_end (by kernel_rfl) ?_
                   exact AS.le_of rfl ⟨rfl,rfl,rfl,rfl,rfl,rfl,trivial⟩ (fun _=>rfl)
                 · refine ⟨_,_,_,rfl,(by conv=>lhs; simp [h3,h4,h5,h20,hx,g0,r0,r1,r2,wu]),fun _=>?_⟩
                   refine allA_step 3 [] (by kernel_rfl) ?_
                   intro i hi
                   simp only [List.mem_cons,List.not_mem_nil,or_false] at hi
                   subst hi
                   refine ⟨_,_,_,rfl,(by conv=>lhs; simp [h3,h4,h5,h20,hx,g0,r0,r1,r2,wu]),fun _=>?_⟩
                   refine allA_step 6 [] (by kernel_rfl) ?_
                   intro i hi
                   simp only [List.mem_cons,List.not_mem_nil,or_false] at hi
                   subst hi
                   refine ⟨_,_,_,rfl,(by conv=>lhs; simp [h3,h4,h5,h20,hx,g0,r0,r1,r2,wu]),fun _=>?_⟩
                   refine allA_end (by kernel_rfl) ?_
                   exact AS.le_of rfl ⟨rfl,rfl,rfl,rfl,rfl,rfl,trivial⟩ (fun _=>rfl)
             · refine ⟨_,_,_,rfl,(by conv=>lhs; simp [h3,h4,h5,h20,hx,g0,r0,r1,r2,wu]),fun _=>?_⟩
               refine allA_step 2 [5] (by kernel_rfl) ?_
               intro i hi
               simp only [List.mem_cons,List.not_mem_nil,or_false] at hi
               rcases hi with rfl | rfl
               · refine ⟨_,_,_,rfl,(by conv=>lhs; simp [h3,h4,h5,h20,hx,g0,r0,r1,r2,wu]),fun _=>?_⟩
                 refine allA_step 3 [5] (by kernel_rfl) ?_
                 intro i hi
                 simp only [List.mem_cons,List.not_mem_nil,or_false] at hi
                 rcases hi with rfl | rfl
                 · refine ⟨_,_,_,rfl,(by conv=>lhs; simp [h3,h4,h5,h20,hx,g0,r0,r1,r2,wu]),fun _=>?_⟩
                   refine allA_step 5 [] (by kernel_rfl) ?_
                   intro i hi
                   simp only [List.mem_cons,List.not_mem_nil,or_false] at hi
                   subst hi
                   refine ⟨_,_,_,rfl,(by conv=>lhs; simp [h3,h4,h5,h20,hx,g0,r0,r1,r2,wu]),fun _=>?_⟩
                   refine allA_step 6 [] (by kernel_rfl) ?_
                   intro i hi
                   simp only [List.mem_cons,List.not_mem_nil,or_false] at hi
                   subst hi
                   refine ⟨_,_,_,rfl,(by conv=>lhs; simp [h3,h4,h5,h20,hx,g0,r0,r1,r2,wu]),fun _=>?_⟩
                   refine allA_end (by kernel_rfl) ?_
                   exact AS.le_of rfl ⟨rfl,rfl,rfl,rfl,rfl,rfl,trivial⟩ (fun _=>rfl)
                 · refine ⟨_,_,_,rfl,(by conv=>lhs; simp [h3,h4,h5,h20,hx,g0,r0,r1,r2,wu]),fun _=>?_⟩
                   refine allA_step 3 [] (by kernel_rfl) ?_
                   intro i hi
                   simp only [List.mem_cons,List.not_mem_nil,or_false] at hi
                   subst hi
                   refine ⟨_,_,_,rfl,(by conv=>lhs; simp [h3,h4,h5,h20,hx,g0,r0,r1,r2,wu]),fun _=>?_⟩
                   refine allA_step 6 [] (by kernel_rfl) ?_
                   intro i hi
                   simp only [List.mem_cons,List.not_mem_nil,or_false] at hi
                   subst hi
                   refine ⟨_,_,_,rfl,(by conv=>lhs; simp [h3,h4,h5,h20,hx,g0,r0,r1,r2,wu]),fun _=>?_⟩
                   refine allA_end (by kernel_rfl) ?_
                   exact AS.le_of rfl ⟨rfl,rfl,rfl,rfl,rfl,rfl,trivial⟩ (fun _=>rfl)
               · refine ⟨_,_,_,rfl,(by conv=>lhs; simp [h3,h4,h5,h20,hx,g0,r0,r1,r2,wu]),fun _=>?_⟩
                 refine allA_step 2 [] (by kernel_rfl) ?_
                 intro i hi
                 simp only [List.mem_cons,List.not_mem_nil,or_false] at hi
                 subst hi
                 refine ⟨_,_,_,rfl,(by conv=>lhs; simp [h3,h4,h5,h20,hx,g0,r0,r1,r2,wu]),fun _=>?_⟩
                 refine allA_step 3 [] (by kernel_rfl) ?_
                 intro i hi
                 simp only [List.mem_cons,List.not_mem_nil,or_false] at hi
                 subst hi
                 refine ⟨_,_,_,rfl,(by conv=>lhs; simp [h3,h4,h5,h20,hx,g0,r0,r1,r2,wu]),fun _=>?_⟩
                 refine allA_step 6 [] (by kernel_rfl) ?_
                 intro i hi
                 simp only [List.mem_cons,List.not_mem_nil,or_false] at hi
                 subst hi
                 refine ⟨_,_,_,rfl,(by conv=>lhs; simp [h3,h4,h5,h20,hx,g0,r0,r1,r2,wu]),fun _=>?_⟩
                 refine allA_end (by kernel_rfl) ?_
                 exact AS.le_of rfl ⟨rfl,rfl,rfl,rfl,rfl,rfl,trivial⟩ (fun _=>rfl)
         repeat' (first | intro (hb : _ = _) | refine ZV ?_ | refine ZB tm sp ?_ | refine ZH ?_ ?_ | refine ZJ (by conv=>lhs; simp [h3]) ?_ | refine ZA ?_ ?_)
         exact ⟨⟨(M,mInc ((a : Int),(b : Int)) G,_),e5,hd2,hc2,by simp [lk_st,nwB],by simp [lk_st,h4,mapB],by simp [lk_st,mapB],by simp [lk_st,h20,lkB2]⟩,hm2,AS.le_of rfl ⟨rfl,rfl,rfl,rfl,rfl,rfl,trivial⟩ (fun _=>rfl)⟩
       | some x =>
         obtain ⟨j,n⟩:=x
         obtain ⟨g0,r1,r2,r3⟩:=mrow_some hx
         have wu : IntKind.u64.wrap ((n : Int) + 1) = (n : Int) + 1:=wu64 (by omega) (by omega)
         rw [g0] at cD q5
         repeat' (first | intro (hb : _ = _) | refine ZV ?_ | refine ZB (id:=43) tm sp ?_ | refine ZB (id:=44) tm sp ?_ | refine ZB (id:=45) tm sp ?_ | refine ZB (id:=46) tm sp ?_ | refine ZB (id:=47) tm sp ?_ | refine ZH ?_ ?_ | refine ZJ (by conv=>lhs; simp [h3,h4,h5,h20,cD,q5,g0,hlt]) ?_ | refine ZA ?_ ?_)
         apply W.regionH (id:=48) (n:=218) (ts:=[(3, .ptr 64 1 0 0),(4, .amap 432 1),(5, .amap 448 1),(16, .int .i64 (a : Nat)),(17, .int .i64 (b : Nat)),(20, .ptr 336 g 0 0)]) tm sp rfl
         case ha =>
           show allA _ _ _ _ _ 7 _ _
           refine allA_step 0 [1] (by kernel_rfl) ?_
           intro i hi
           simp only [List.mem_cons,List.not_mem_nil,or_false] at hi
           rcases hi with rfl | rfl
           · refine ⟨_,_,_,rfl,(by conv=>lhs; simp [h3,h4,h5,h20,hx,g0,r1,r2,r3,wu]),fun _=>?_⟩
             refine allA_step 1 [] (by kernel_rfl) ?_
             intro i hi
             simp only [List.mem_cons,List.not_mem_nil,or_false] at hi
             subst hi
             refine ⟨_,_,_,rfl,(by conv=>lhs; simp [h3,h4,h5,h20,hx,g0,r1,r2,r3,wu]),fun _=>?_⟩
             refine allA_step 2 [4] (by kernel_rfl) ?_
             intro i hi
             simp only [List.mem_cons,List.not_mem_nil,or_false] at hi
             rcases hi with rfl | rfl
             · refine ⟨_,_,_,rfl,(by conv=>lhs; simp [h3,h4,h5,h20,hx,g0,r1,r2,r3,wu]),fun _=>?_⟩
               refine allA_step 3 [4] (by kernel_rfl) ?_
               intro i hi
               simp only [List.mem_cons,List.not_mem_nil,or_false] at hi
               rcases hi with rfl | rfl
               · refine ⟨_,_,_,rfl,(by conv=>lhs; simp [h3,h4,h5,h20,hx,g0,r1,r2,r3,wu]),fun _=>?_⟩
                 refine allA_step 4 [] (by kernel_rfl) ?_
                 intro i hi
                 simp only [List.mem_cons,List.not_mem_nil,or_false] at hi
                 subst hi
                 refine ⟨_,_,_,rfl,(by conv=>lhs; simp [h3,h4,h5,h20,hx,g0,r1,r2,r3,wu]),fun _=>?_⟩
                 refine allA_step 5 [] (by kernel_rfl) ?_
                 intro i hi
                 simp only [List.mem_cons,List.not_mem_nil,or_false] at hi
                 subst hi
                 refine ⟨_,_,_,rfl,(by conv=>lhs; simp [h3,h4,h5,h20,hx,g0,r1,r2,r3,wu]),fun _=>?_⟩
                 refine allA_step 6 [] (by kernel_rfl) ?_
                 intro i hi
                 simp only [List.mem_cons,List.not_mem_nil,or_false] at hi
                 subst hi
                 refine ⟨_,_,_,rfl,(by conv=>lhs; simp [h3,h4,h5,h20,hx,g0,r1,r2,r3,wu]),fun _=>?_⟩
                 refine allA_end (by kernel_rfl) ?_
                 exact AS.le_of rfl ⟨rfl,rfl,rfl,rfl,rfl,rfl,trivial⟩ (fun _=>rfl)
               · refine ⟨_,_,_,rfl,(by conv=>lhs; simp [h3,h4,h5,h20,hx,g0,r1,r2,r3,wu]),fun _=>?_⟩
                 refine allA_step 3 [5] (by kernel_rfl) ?_
                 intro i hi
                 simp only [List.mem_cons,List.not_mem_nil,or_false] at hi
                 rcases hi with rfl | rfl
                 · refine ⟨_,_,_,rfl,(by conv=>lhs; simp [h3,h4,h5,h20,hx,g0,r1,r2,r3,wu]),fun _=>?_⟩
                   refine allA_step 5 [] (by kernel_rfl) ?_
                   intro i hi
                   simp only [List.mem_cons,List.not_mem_nil,or_false] at hi
                   subst hi
                   refine ⟨_,_,_,rfl,(by conv=>lhs; simp [h3,h4,h5,h20,hx,g0,r1,r2,r3,wu]),fun _=>?_⟩
                   refine allA_step 6 [] (by kernel_rfl) ?_
                   intro i hi
                   simp only [List.mem_cons,List.not_mem_nil,or_false] at hi
                   subst hi
                   refine ⟨_,_,_,rfl,(by conv=>lhs; simp [h3,h4,h5,h20,hx,g0,r1,r2,r3,wu]),fun _=>?_⟩
                   refine allA_end (by kernel_rfl) ?_
                   exact AS.le_of rfl ⟨rfl,rfl,rfl,rfl,rfl,rfl,trivial⟩ (fun _=>rfl)
                 · refine ⟨_,_,_,rfl,(by conv=>lhs; simp [h3,h4,h5,h20,hx,g0,r1,r2,r3,wu]),fun _=>?_⟩
                   refine allA_step 3 [] (by kernel_rfl) ?_
                   intro i hi
                   simp only [List.mem_cons,List.not_mem_nil,or_false] at hi
                   subst hi
                   refine ⟨_,_,_,rfl,(by conv=>lhs; simp [h3,h4,h5,h20,hx,g0,r1,r2,r3,wu]),fun _=>?_⟩
                   refine allA_step 6 [] (by kernel_rfl) ?_
                   intro i hi
                   simp only [List.mem_cons,List.not_mem_nil,or_false] at hi
                   subst hi
                   refine ⟨_,_,_,rfl,(by conv=>lhs; simp [h3,h4,h5,h20,hx,g0,r1,r2,r3,wu]),fun _=>?_⟩
                   refine allA_end (by kernel_rfl) ?_
                   exact AS.le_of rfl ⟨rfl,rfl,rfl,rfl,rfl,rfl,trivial⟩ (fun _=>rfl)
             · refine ⟨_,_,_,rfl,(by conv=>lhs; simp [h3,h4,h5,h20,hx,g0,r1,r2,r3,wu]),fun _=>?_⟩
               refine allA_step 2 [5] (by kernel_rfl) ?_
               intro i hi
               simp only [List.mem_cons,List.not_mem_nil,or_false] at hi
               rcases hi with rfl | rfl
               · refine ⟨_,_,_,rfl,(by conv=>lhs; simp [h3,h4,h5,h20,hx,g0,r1,r2,r3,wu]),fun _=>?_⟩
                 refine allA_step 3 [5] (by kernel_rfl) ?_
                 intro i hi
                 simp only [List.mem_cons,List.not_mem_nil,or_false] at hi
                 rcases hi with rfl | rfl
                 · refine ⟨_,_,_,rfl,(by conv=>lhs; simp [h3,h4,h5,h20,hx,g0,r1,r2,r3,wu]),fun _=>?_⟩
                   refine allA_step 5 [] (by kernel_rfl) ?_
                   intro i hi
                   simp only [List.mem_cons,List.not_mem_nil,or_false] at hi
                   subst hi
                   refine ⟨_,_,_,rfl,(by conv=>lhs; simp [h3,h4,h5,h20,hx,g0,r1,r2,r3,wu]),fun _=>?_⟩
                   refine allA_step 6 [] (by kernel_rfl) ?_
                   intro i hi
                   simp only [List.mem_cons,List.not_mem_nil,or_false] at hi
                   subst hi
                   refine ⟨_,_,_,rfl,(by conv=>lhs; simp [h3,h4,h5,h20,hx,g0,r1,r2,r3,wu]),fun _=>?_⟩
                   refine allA_end (by kernel_rfl) ?_
                   exact AS.le_of rfl ⟨rfl,rfl,rfl,rfl,rfl,rfl,trivial⟩ (fun _=>rfl)
                 · refine ⟨_,_,_,rfl,(by conv=>lhs; simp [h3,h4,h5,h20,hx,g0,r1,r2,r3,wu]),fun _=>?_⟩
                   refine allA_step 3 [] (by kernel_rfl) ?_
                   intro i hi
                   simp only [List.mem_cons,List.not_mem_nil,or_false] at hi
                   subst hi
                   refine ⟨_,_,_,rfl,(by conv=>lhs; simp [h3,h4,h5,h20,hx,g0,r1,r2,r3,wu]),fun _=>?_⟩
                   refine allA_step 6 [] (by kernel_rfl) ?_
                   intro i hi
                   simp only [List.mem_cons,List.not_mem_nil,or_false] at hi
                   subst hi
                   refine ⟨_,_,_,rfl,(by conv=>lhs; simp [h3,h4,h5,h20,hx,g0,r1,r2,r3,wu]),fun _=>?_⟩
                   refine allA_end (by kernel_rfl) ?_
                   exact AS.le_of rfl ⟨rfl,rfl,rfl,rfl,rfl,rfl,trivial⟩ (fun _=>rfl)
               · refine ⟨_,_,_,rfl,(by conv=>lhs; simp [h3,h4,h5,h20,hx,g0,r1,r2,r3,wu]),fun _=>?_⟩
                 refine allA_step 2 [] (by kernel_rfl) ?_
                 intro i hi
                 simp only [List.mem_cons,List.not_mem_nil,or_false] at hi
                 subst hi
                 refine ⟨_,_,_,rfl,(by conv=>lhs; simp [h3,h4,h5,h20,hx,g0,r1,r2,r3,wu]),fun _=>?_⟩
                 refine allA_step 3 [] (by kernel_rfl) ?_
                 intro i hi
                 simp only [List.mem_cons,List.not_mem_nil,or_false] at hi
                 subst hi
                 refine ⟨_,_,_,rfl,(by conv=>lhs; simp [h3,h4,h5,h20,hx,g0,r1,r2,r3,wu]),fun _=>?_⟩
                 refine allA_step 6 [] (by kernel_rfl) ?_
                 intro i hi
                 simp only [List.mem_cons,List.not_mem_nil,or_false] at hi
                 subst hi
                 refine ⟨_,_,_,rfl,(by conv=>lhs; simp [h3,h4,h5,h20,hx,g0,r1,r2,r3,wu]),fun _=>?_⟩
                 refine allA_end (by kernel_rfl) ?_
                 exact AS.le_of rfl ⟨rfl,rfl,rfl,rfl,rfl,rfl,trivial⟩ (fun _=>rfl)
           · refine ⟨_,_,_,rfl,(by conv=>lhs; simp [h3,h4,h5,h20,hx,g0,r1,r2,r3,wu]),fun _=>?_⟩
             refine allA_step 0 [] (by kernel_rfl) ?_
             intro i hi
             simp only [List.mem_cons,List.not_mem_nil,or_false] at hi
             subst hi
             refine ⟨_,_,_,rfl,(by conv=>lhs; simp [h3,h4,h5,h20,hx,g0,r1,r2,r3,wu]),fun _=>?_⟩
             refine allA_step 2 [4] (by kernel_rfl) ?_
             intro i hi
             simp only [List.mem_cons,List.not_mem_nil,or_false] at hi
             rcases hi with rfl | rfl
             · refine ⟨_,_,_,rfl,(by conv=>lhs; simp [h3,h4,h5,h20,hx,g0,r1,r2,r3,wu]),fun _=>?_⟩
               refine allA_step 3 [4] (by kernel_rfl) ?_
               intro i hi
               simp only [List.mem_cons,List.not_mem_nil,or_false] at hi
               rcases hi with rfl | rfl
               · refine ⟨_,_,_,rfl,(by conv=>lhs; simp [h3,h4,h5,h20,hx,g0,r1,r2,r3,wu]),fun _=>?_⟩
                 refine allA_step 4 [] (by kernel_rfl) ?_
                 intro i hi
                 simp only [List.mem_cons,List.not_mem_nil,or_false] at hi
                 subst hi
                 refine ⟨_,_,_,rfl,(by conv=>lhs; simp [h3,h4,h5,h20,hx,g0,r1,r2,r3,wu]),fun _=>?_⟩
                 refine allA_step 5 [] (by kernel_rfl) ?_
                 intro i hi
                 simp only [List.mem_cons,List.not_mem_nil,or_false] at hi
                 subst hi
                 refine ⟨_,_,_,rfl,(by conv=>lhs; simp [h3,h4,h5,h20,hx,g0,r1,r2,r3,wu]),fun _=>?_⟩
                 refine allA_step 6 [] (by kernel_rfl) ?_
                 intro i hi
                 simp only [List.mem_cons,List.not_mem_nil,or_false] at hi
                 subst hi
                 refine ⟨_,_,_,rfl,(by conv=>lhs; simp [h3,h4,h5,h20,hx,g0,r1,r2,r3,wu]),fun _=>?_⟩
                 refine allA_end (by kernel_rfl) ?_
                 exact AS.le_of rfl ⟨rfl,rfl,rfl,rfl,rfl,rfl,trivial⟩ (fun _=>rfl)
               · refine ⟨_,_,_,rfl,(by conv=>lhs; simp [h3,h4,h5,h20,hx,g0,r1,r2,r3,wu]),fun _=>?_⟩
                 refine allA_step 3 [5] (by kernel_rfl) ?_
                 intro i hi
                 simp only [List.mem_cons,List.not_mem_nil,or_false] at hi
                 rcases hi with rfl | rfl
                 · refine ⟨_,_,_,rfl,(by conv=>lhs; simp [h3,h4,h5,h20,hx,g0,r1,r2,r3,wu]),fun _=>?_⟩
                   refine allA_step 5 [] (by kernel_rfl) ?_
                   intro i hi
                   simp only [List.mem_cons,List.not_mem_nil,or_false] at hi
                   subst hi
                   refine ⟨_,_,_,rfl,(by conv=>lhs; simp [h3,h4,h5,h20,hx,g0,r1,r2,r3,wu]),fun _=>?_⟩
                   refine allA_step 6 [] (by kernel_rfl) ?_
                   intro i hi
                   simp only [List.mem_cons,List.not_mem_nil,or_false] at hi
                   subst hi
                   refine ⟨_,_,_,rfl,(by conv=>lhs; simp [h3,h4,h5,h20,hx,g0,r1,r2,r3,wu]),fun _=>?_⟩
                   refine allA_end (by kernel_rfl) ?_
                   exact AS.le_of rfl ⟨rfl,rfl,rfl,rfl,rfl,rfl,trivial⟩ (fun _=>rfl)
                 · refine ⟨_,_,_,rfl,(by conv=>lhs; simp [h3,h4,h5,h20,hx,g0,r1,r2,r3,wu]),fun _=>?_⟩
                   refine allA_step 3 [] (by kernel_rfl) ?_
                   intro i hi
                   simp only [List.mem_cons,List.not_mem_nil,or_false] at hi
                   subst hi
                   refine ⟨_,_,_,rfl,(by conv=>lhs; simp [h3,h4,h5,h20,hx,g0,r1,r2,r3,wu]),fun _=>?_⟩
                   refine allA_step 6 [] (by kernel_rfl) ?_
                   intro i hi
                   simp only [List.mem_cons,List.not_mem_nil,or_false] at hi
                   subst hi
                   refine ⟨_,_,_,rfl,(by conv=>lhs; simp [h3,h4,h5,h20,hx,g0,r1,r2,r3,wu]),fun _=>?_⟩
                   refine allA_end (by kernel_rfl) ?_
                   exact AS.le_of rfl ⟨rfl,rfl,rfl,rfl,rfl,rfl,trivial⟩ (fun _=>rfl)
             · refine ⟨_,_,_,rfl,(by conv=>lhs; simp [h3,h4,h5,h20,hx,g0,r1,r2,r3,wu]),fun _=>?_⟩
               refine allA_step 2 [5] (by kernel_rfl) ?_
               intro i hi
               simp only [List.mem_cons,List.not_mem_nil,or_false] at hi
               rcases hi with rfl | rfl
               · refine ⟨_,_,_,rfl,(by conv=>lhs; simp [h3,h4,h5,h20,hx,g0,r1,r2,r3,wu]),fun _=>?_⟩
                 refine allA_step 3 [5] (by kernel_rfl) ?_
                 intro i hi
                 simp only [List.mem_cons,List.not_mem_nil,or_false] at hi
                 rcases hi with rfl | rfl
                 · refine ⟨_,_,_,rfl,(by conv=>lhs; simp [h3,h4,h5,h20,hx,g0,r1,r2,r3,wu]),fun _=>?_⟩
                   refine allA_step 5 [] (by kernel_rfl) ?_
                   intro i hi
                   simp only [List.mem_cons,List.not_mem_nil,or_false] at hi
                   subst hi
                   refine ⟨_,_,_,rfl,(by conv=>lhs; simp [h3,h4,h5,h20,hx,g0,r1,r2,r3,wu]),fun _=>?_⟩
                   refine allA_step 6 [] (by kernel_rfl) ?_
                   intro i hi
                   simp only [List.mem_cons,List.not_mem_nil,or_false] at hi
                   subst hi
                   refine ⟨_,_,_,rfl,(by conv=>lhs; simp [h3,h4,h5,h20,hx,g0,r1,r2,r3,wu]),fun _=>?_⟩
                   refine allA_end (by kernel_rfl) ?_
                   exact AS.le_of rfl ⟨rfl,rfl,rfl,rfl,rfl,rfl,trivial⟩ (fun _=>rfl)
                 · refine ⟨_,_,_,rfl,(by conv=>lhs; simp [h3,h4,h5,h20,hx,g0,r1,r2,r3,wu]),fun _=>?_⟩
                   refine allA_step 3 [] (by kernel_rfl) ?_
                   intro i hi
                   simp only [List.mem_cons,List.not_mem_nil,or_false] at hi
                   subst hi
                   refine ⟨_,_,_,rfl,(by conv=>lhs; simp [h3,h4,h5,h20,hx,g0,r1,r2,r3,wu]),fun _=>?_⟩
                   refine allA_step 6 [] (by kernel_rfl) ?_
                   intro i hi
                   simp only [List.mem_cons,List.not_mem_nil,or_false] at hi
                   subst hi
                   refine ⟨_,_,_,rfl,(by conv=>lhs; simp [h3,h4,h5,h20,hx,g0,r1,r2,r3,wu]),fun _=>?_⟩
                   refine allA_end (by kernel_rfl) ?_
                   exact AS.le_of rfl ⟨rfl,rfl,rfl,rfl,rfl,rfl,trivial⟩ (fun _=>rfl)
               · refine ⟨_,_,_,rfl,(by conv=>lhs; simp [h3,h4,h5,h20,hx,g0,r1,r2,r3,wu]),fun _=>?_⟩
                 refine allA_step 2 [] (by kernel_rfl) ?_
                 intro i hi
                 simp only [List.mem_cons,List.not_mem_nil,or_false] at hi
                 subst hi
                 refine ⟨_,_,_,rfl,(by conv=>lhs; simp [h3,h4,h5,h20,hx,g0,r1,r2,r3,wu]),fun _=>?_⟩
                 refine allA_step 3 [] (by kernel_rfl) ?_
                 intro i hi
                 simp only [List.mem_cons,List.not_mem_nil,or_false] at hi
                 subst hi
                 refine ⟨_,_,_,rfl,(by conv=>lhs; simp [h3,h4,h5,h20,hx,g0,r1,r2,r3,wu]),fun _=>?_⟩
                 refine allA_step 6 [] (by kernel_rfl) ?_
                 intro i hi
                 simp only [List.mem_cons,List.not_mem_nil,or_false] at hi
                 subst hi
                 refine ⟨_,_,_,rfl,(by conv=>lhs; simp [h3,h4,h5,h20,hx,g0,r1,r2,r3,wu]),fun _=>?_⟩
                 refine allA_end (by kernel_rfl) ?_
                 exact AS.le_of rfl ⟨rfl,rfl,rfl,rfl,rfl,rfl,trivial⟩ (fun _=>rfl)
         repeat' (first | intro (hb : _ = _) | refine ZV ?_ | refine ZB tm sp ?_ | refine ZH ?_ ?_ | refine ZJ (by conv=>lhs; simp [h3]) ?_ | refine ZA ?_ ?_)
         exact ⟨⟨(M,mInc ((a : Int),(b : Int)) G,_),e5,hd2,hc2,by simp [lk_st,nwB],by simp [lk_st,h4,mapB],by simp [lk_st,mapB],by simp [lk_st,h20,lkB2]⟩,hm2,AS.le_of rfl ⟨rfl,rfl,rfl,rfl,rfl,rfl,trivial⟩ (fun _=>rfl)⟩
     · omega
     · rw [hc] at e1
       cases e1
   · have q5 : ¬ ((mGet ((a : Int),(b : Int)) G : Nat) : Int) < (mGet ((a : Int),(b : Int)) S : Nat):=by omega
     have hq:=ho.q a b
     have hdead : dead a b ls:=by
       have h1 : (fndK a b ls).q = []:=List.eq_nil_of_length_eq_zero (by have:=hq.1; omega)
       have h2:=fnd_ft (l:=ls) (a : Int) (b : Int)
       unfold dead
       generalize fndK a b ls = x at *
       obtain ⟨x1,x2,x3,x4⟩:=x
       dsimp only at h1 h2 hc
       rw [h1,h2.1,h2.2,hc]
     repeat' (first | intro (hb : _ = _) | refine ZV ?_ | refine ZB tm sp ?_ | refine ZH ?_ ?_ | refine ZJ (by conv=>lhs; simp [h3,h4,h5,h20,q5,hlt,hwb]) ?_ | refine ZA ?_ ?_)
     exact ⟨⟨(b + 1,ls,G,_),by dsimp only; omega,ho,fun f t hf ht h=>by
       by_cases e : f = a ∧ t = b
       · rw [e.1,e.2]
         exact hdead
       · exact hd f t hf ht (by dsimp only at h; omega),by simp [lk_st,h3,nwB],by simp [lk_st,h4,mapB],by simp [lk_st,h5,mapB]⟩,by dsimp only; omega,AS.le_of rfl ⟨rfl,rfl,rfl,rfl,rfl,trivial⟩ (fun _=>rfl)⟩
end
end Go.Abs.Nn
