/- Equal messages and networks are the same. Conditions: none. -/
import Derived.Test.YtphclapfniepoaaGreatNx5
import Derived.Test.YtphclapfniepoaaGreatNx2
namespace Go.Abs.Nx
open Go Go.Proofs Go.Abs
set_option maxRecDepth 100000
set_option maxHeartbeats 4000000
set_option linter.unusedSimpArgs false
set_option linter.unusedVariables false
section
attribute [local simp] instA slice3A slice3C
attribute [-simp] mkv
attribute [local simp] mkv_hd hdA_cons hdA_ob hdA_ob'
noncomputable def smeS : SpecFn := mkS (fun m : Msg => [.agg m.v, .agg m.v]) fun _ => (.bool true,[])
theorem smeS_eq (m : Msg) : smeS [.agg m.v, .agg m.v] [] = some (.bool true,[]) :=
 mkS_eq (enc:=fun m : Msg=>[AV.agg m.v, .agg m.v]) (fun x y _=>rfl) m
noncomputable def sme_specs : NL Spec := [(37,⟨1,sobS⟩)]
theorem sme_specs_ok : ∀ p ∈ sme_specs,FnC Tryz.prog p.1 p.2.fn := by
 simp only [sme_specs,List.mem_cons,List.not_mem_nil,or_false]
 rintro p rfl
 exact sob_ok
attribute [local simp] sme_specs
theorem sme_ok : FnC Tryz.prog 16 smeS := by
 refine FnC.walk 16 (fn:=Tryz.f16) Tryz.func16 rfl (by kernel_rfl) fun m=>?_
 have co:=sobS_eq m.obj
 obtain ⟨b1,b2,b3,b4,b5,o,b6,b7,b8,b9⟩:=m
 change W _ (Ret _ _ (.bool true) []) _ _ ⟨77,[(0, .agg (Msg.v ⟨b1,b2,b3,b4,b5,o,b6,b7,b8,b9⟩)),(1, .agg (Msg.v ⟨b1,b2,b3,b4,b5,o,b6,b7,b8,b9⟩))],[]⟩
 simp only [Msg.v] at co ⊢
 repeat' (first | intro (hb : _ = _) | refine ZV ?_ | refine ZB tm sme_specs_ok ?_ | refine ZH ?_ ?_ | refine ZJ (by conv=>lhs; simp [co]) ?_ | refine ZA ?_ ?_)
 all_goals (first | refine Yd ?_ | refine Ye ?_)
 all_goals (first | rfl | (simp; done) | (simp_all; done) | (simp_all; omega))
noncomputable def snwS : SpecFn := mkS (fun d : Nts => [d.v,d.v]) fun _ => (.bool true,[])
theorem snwS_eq (d : Nts) : snwS [d.v,d.v] [] = some (.bool true,[]) :=
 mkS_eq (enc:=fun d : Nts=>[d.v,d.v]) (fun x y _=>rfl) d
noncomputable def snw_specs : NL Spec := [(16,⟨1,smeS⟩)]
theorem snw_specs_ok : ∀ p ∈ snw_specs,FnC Tryz.prog p.1 p.2.fn := by
 simp only [snw_specs,List.mem_cons,List.not_mem_nil,or_false]
 rintro p rfl
 exact sme_ok
attribute [local simp] snw_specs
theorem snw_ok : FnC Tryz.prog 11 snwS := by
 refine FnC.walk 11 (fn:=Tryz.f11) Tryz.func11 rfl (by kernel_rfl) fun d=>?_
 obtain ⟨l,hl,he⟩:=d
 change W _ (Ret _ _ (.bool true) []) _ _ ⟨80,[(0, .agg [.list 4 (l.map lkC)]),(1, .agg [.list 4 (l.map lkC)])],[]⟩
 have cap : l.length ≤ 9223372036854775807:=by omega
 repeat' (first | intro (hb : _ = _) | refine ZV ?_ | refine ZB tm snw_specs_ok ?_ | refine ZH ?_ ?_ | refine ZJ (by conv=>lhs; simp [cap,bne_self']) ?_ | refine ZA ?_ ?_)
 refine W.loop rfl (ι:={ q : Nat × NL ABlk // q.1 ≤ l.length ∧ lk q.2 48 = some { gen:=1,kind:=2,elem:=24,size:=1,inl:=false,rows:=[[.list 4 (l.map lkC)]] } ∧ lk q.2 64 = some { gen:=1,kind:=2,elem:=24,size:=1,inl:=false,rows:=[[.list 4 (l.map lkC)]] } })
   (fun q=>⟨80,[(2, .ptr 48 1 0 0),(3, .ptr 64 1 0 0),(18, .int .i64 l.length),(19, .int .i64 (q.1.1 : Nat))],q.1.2⟩) (fun q=>l.length - q.1.1)
   ⟨(0,_),by simp,by simp [lk,lk_st],by simp [lk,lk_st]⟩ (AS.le_of rfl ⟨rfl,rfl,rfl,rfl,trivial⟩ (fun _=>rfl)) ?_
 rintro ⟨⟨k,H⟩,hk,g1,g2⟩
 dsimp only at hk g1 g2 ⊢
 by_cases hk2 : k = l.length
 · subst hk2
   have q1 : ¬ (l.length : Int) < l.length:=by omega
   repeat' (first | intro (hb : _ = _) | refine ZV ?_ | refine ZB tm snw_specs_ok ?_ | refine ZH ?_ ?_ | refine ZJ (by conv=>lhs; simp [q1]) ?_ | refine ZA ?_ ?_)
   all_goals (first | refine Yd ?_ | refine Ye ?_)
   all_goals (first | rfl | (simp; done) | (simp_all; done) | (simp_all; omega))
 · have hlt : k < l.length:=by omega
   obtain ⟨e,hr⟩:=get_lt hlt
   have hm : (l.map lkC)[k]? = some (lkC e):=by rw [List.getElem?_map,hr]; rfl
   have q1 : (k : Int) < l.length:=by omega
   have q2 : ¬ l.length ≤ k:=by omega
   have hw : IntKind.i64.wrap ((k : Int) + 1) = ((k + 1 : Nat) : Int):=w64 (by omega) (by omega)
   have hqb : e.q.length ≤ 9000:=he _ (List.mem_of_getElem? hr)
   obtain ⟨e1,e2,e3,q⟩:=e
   dsimp only at hqb
   have cq : q.length ≤ 9223372036854775807:=by omega
   simp only [lkC] at hm
   obtain ⟨n6,h6⟩ : ∃ n,((lk H 112).getD {}).gen = n:=⟨_,rfl⟩
   obtain ⟨n7,h7⟩ : ∃ n,((lk H 128).getD {}).gen = n:=⟨_,rfl⟩
   repeat' (first | intro (hb : _ = _) | refine ZV ?_ | refine ZB tm snw_specs_ok ?_ | refine ZH ?_ ?_ | refine ZJ (by conv=>lhs; simp [q1,q2,hm,g1,g2,cq,bne_self',h6,h7]) ?_ | refine ZA ?_ ?_)
   refine W.loop rfl (ι:={ p : Nat × NL ABlk // p.1 ≤ q.length ∧ lk p.2 48 = some { gen:=1,kind:=2,elem:=24,size:=1,inl:=false,rows:=[[.list 4 (l.map lkC)]] } ∧ lk p.2 64 = some { gen:=1,kind:=2,elem:=24,size:=1,inl:=false,rows:=[[.list 4 (l.map lkC)]] } ∧ lk p.2 112 = some { gen:=n6 + 1,kind:=2,elem:=70,size:=4,inl:=false,rows:=[lkC ⟨e1,e2,e3,q⟩] } ∧ lk p.2 128 = some { gen:=n7 + 1,kind:=2,elem:=70,size:=4,inl:=false,rows:=[lkC ⟨e1,e2,e3,q⟩] } })
     (fun p=>⟨80,[(2, .ptr 48 1 0 0),(3, .ptr 64 1 0 0),(6, .ptr 112 (n6 + 1) 0 0),(7, .ptr 128 (n7 + 1) 0 0),(18, .int .i64 l.length),(19, .int .i64 (k : Nat)),(62, .int .i64 q.length),(63, .int .i64 (p.1.1 : Nat))],p.1.2⟩) (fun p=>q.length - p.1.1)
     ⟨(0,_),by simp,by simp [lk_st,g1],by simp [lk_st,g2],by simp [lk_st,lkC,h6],by simp [lk_st,lkC,h7]⟩ (AS.le_of rfl ⟨rfl,rfl,rfl,rfl,rfl,rfl,rfl,rfl,trivial⟩ (fun _=>rfl)) ?_
   clear g1 g2
   rintro ⟨⟨j,H2⟩,hj,g1,g2,g3,g4⟩
   dsimp only at hj g1 g2 g3 g4 ⊢
   simp only [lkC] at g3 g4
   by_cases hj2 : j = q.length
   · subst hj2
     have r1 : ¬ (q.length : Int) < q.length:=by omega
     repeat' (first | intro (hb : _ = _) | refine ZV ?_ | refine ZB tm snw_specs_ok ?_ | refine ZH ?_ ?_ | refine ZJ (by conv=>lhs; simp [r1,hw]) ?_ | refine ZA ?_ ?_)
     exact ⟨⟨(k + 1,_),hlt,by simp [lk_st,g1],by simp [lk_st,g2]⟩,by dsimp only; omega,AS.le_of rfl ⟨rfl,rfl,rfl,rfl,trivial⟩ (fun _=>rfl)⟩
   · have jlt : j < q.length:=by omega
     obtain ⟨m,hmm⟩:=get_lt jlt
     have hm2 : (q.map Msg.v)[j]? = some m.v:=by rw [List.getElem?_map,hmm]; rfl
     have r1 : (j : Int) < q.length:=by omega
     have r2 : ¬ q.length ≤ j:=by omega
     have hw2 : IntKind.i64.wrap ((j : Int) + 1) = ((j + 1 : Nat) : Int):=w64 (by omega) (by omega)
     have cm:=smeS_eq m
     obtain ⟨b1,b2,b3,b4,b5,o,b6,b7,b8,b9⟩:=m
     simp only [Msg.v] at hm2 cm
     repeat' (first | intro (hb : _ = _) | refine ZV ?_ | refine ZB tm snw_specs_ok ?_ | refine ZH ?_ ?_ | refine ZJ (by conv=>lhs; simp [r1,r2,hm2,cm,g3,g4,hw2]) ?_ | refine ZA ?_ ?_)
     exact ⟨⟨(j + 1,_),jlt,by simp [lk_st,g1],by simp [lk_st,g2],by simp [lk_st,g3,lkC],by simp [lk_st,g4,lkC]⟩,by dsimp only; omega,AS.le_of rfl ⟨rfl,rfl,rfl,rfl,rfl,rfl,rfl,rfl,trivial⟩ (fun _=>rfl)⟩
end
section
attribute [local simp] instA slice3A slice3C
attribute [-simp] mkv
attribute [local simp] mkv_hd hdA_cons hdA_ob hdA_ob'
theorem msg_nrmz (f t k i m a b c e : Int) : nrmL Tryz.prog (leafs Tryz.prog 46) (.int .i64 f :: .int .i64 t :: .int .i64 k :: .int .u64 i :: .int .i64 m :: (zO ++ [.int .u64 a, .int .i64 b, .int .u64 c, .int .i64 e])) = (⟨f,t,k,i,m,zOb,a,b,c,e⟩ : Msg).v := by
 rw [msgLeafs]
 simp only [Msg.v,nrmL]
 rw [nrmL_append _ _ _ _ (by rw [obLeafs]; rfl),zN_eq]
 simp [nrmL,nrmV,zOb]
noncomputable def sdpN : SpecFn := nS Tryz.prog [24,46] sdpS
theorem sdpN_ok : FnC Tryz.prog 9 sdpN := sdp_ok.nrm _
theorem nw_nrm (l : List Lk) : nrmV Tryz.prog 24 (.agg [.list 4 (l.map lkC)]) = .agg [.list 4 (l.map lkC)] := by
 simp only [nrmV,nwLeafs,nrmL,uK,nrmRows_map lkC_nrm]
theorem nw_nrm0 : nrmV Tryz.prog 24 (.agg [.nils]) = .agg [.list 4 (([] : List Lk).map lkC)] := by
 simp only [nrmV,nwLeafs,nrmL,uK,cK,List.map_nil]
theorem sdpN_eqn (f t k i m a b c e : Int) : sdpN [.agg [.nils], .agg (.int .i64 f :: .int .i64 t :: .int .i64 k :: .int .u64 i :: .int .i64 m :: (zO ++ [.int .u64 a, .int .i64 b, .int .u64 c, .int .i64 e]))] [] = some (rN (sndN [] ⟨f,t,k,i,m,zOb,a,b,c,e⟩).1 (sndN [] ⟨f,t,k,i,m,zOb,a,b,c,e⟩).2,[]) := by
 rw [sdpN,nS_eq]
 simp only [nrmL]
 rw [nw_nrm0,show nrmV Tryz.prog 46 (.agg (.int .i64 f :: .int .i64 t :: .int .i64 k :: .int .u64 i :: .int .i64 m :: (zO ++ [.int .u64 a, .int .i64 b, .int .u64 c, .int .i64 e]))) = .agg (⟨f,t,k,i,m,zOb,a,b,c,e⟩ : Msg).v by rw [nrmV,msg_nrmz]]
 exact sdpS_eq ⟨[],by simp,by simp⟩ _
noncomputable def m7 : Msg := ⟨1,2,0,7,0,zOb,0,0,0,0⟩
noncomputable def k7 (c : Bool) : Lk := ⟨1,2,c,[m7]⟩
noncomputable def k0 : Lk := ⟨2,1,true,[]⟩
theorem s1_eq : sndN [] m7 = ([k7 false],0) := by
 simp [sndN,validK,fndK,putK,restK,putP,okN,m7,k7]
theorem v1 : validK [k7 false] = true := by
 simp [validK,goodK,lkB,okN,m7,k7,List.range_succ]
theorem v2 : validK [k7 true,k0] = true := by
 simp [validK,goodK,lkB,okN,m7,k7,k0,befB,List.range_succ]
theorem v3 : validK [] = true := by simp [validK]
theorem s2_eq : cutN [k7 false] 1 2 true = ([k7 true,k0],0) := by
 rw [cutN,v1]
 simp [fndK,putK,restK,putP,othK,befB,lkIs,okN,m7,k7,k0]
theorem s3_eq : dlvN [k7 true,k0] 1 2 = (mz,[],8) := by
 rw [dlvN,v2]
 simp [fndK,lkIs,k7]
theorem s4_eq : cutN [k7 true,k0] 2 1 false = ([k7 false],0) := by
 rw [cutN,v2]
 simp [fndK,putK,restK,putP,othK,befB,lkIs,okN,m7,k7,k0]
theorem s5_eq : dlvN [k7 false] 1 2 = (m7,[],0) := by
 rw [dlvN,v1]
 simp [fndK,putK,restK,putP,othK,befB,lkIs,k7]
noncomputable def sanS : SpecFn := mkS (fun _ : Unit => []) fun _ => (.bool true,[])
theorem sanS_eq : sanS [] [] = some (.bool true,[]) := mkS_eq (enc := fun _ : Unit => ([] : List AV)) (fun _ _ _ => rfl) ()
noncomputable def san_specs : NL Spec := [(9,⟨1,sdpN⟩),(14,⟨1,cutS⟩),(12,⟨1,dlpS⟩),(21,⟨1,vkS⟩)]
theorem san_specs_ok : ∀ p ∈ san_specs,FnC Tryz.prog p.1 p.2.fn := by
 simp only [san_specs,List.mem_cons,List.not_mem_nil,or_false]
 rintro p (rfl | rfl | rfl | rfl)
 · exact sdpN_ok
 · exact pct_ok
 · exact dlp_ok
 · exact vap2_ok
attribute [local simp] san_specs
theorem san_ok : FnC Tryz.prog 4 sanS := by
 refine FnC.walk 4 (fn:=Tryz.f4) Tryz.func4 rfl (by kernel_rfl) fun d=>?_
 change W _ (Ret _ _ (.bool true) []) _ _ ⟨71,[],[]⟩
 have c1:=sdpN_eqn 1 2 0 7 0 0 0 0 0
 have c2:=cutS_eq ⟨[k7 false],by simp,by simp [okK,k7]⟩ 1 2 true
 have c3:=dlpS_eq ⟨[k7 true,k0],by simp,by simp [okK,k7,k0]⟩ 1 2
 have c4:=cutS_eq ⟨[k7 true,k0],by simp,by simp [okK,k7,k0]⟩ 2 1 false
 have c5:=dlpS_eq ⟨[k7 false],by simp,by simp [okK,k7]⟩ 1 2
 have c6:=vkS_eq ⟨[],by simp,by simp⟩
 rw [show (⟨1,2,0,7,0,zOb,0,0,0,0⟩ : Msg) = m7 from rfl,s1_eq] at c1
 simp only [Nt8.n,Nts.v] at c2 c3 c4 c5 c6
 rw [s2_eq] at c2
 rw [s3_eq] at c3
 rw [s4_eq] at c4
 rw [s5_eq] at c5
 rw [v3] at c6
 generalize [k7 false] = L1 at *
 generalize [k7 true,k0] = L2 at *
 simp only [zO,List.cons_append,List.nil_append] at c1
 simp only [rN,rDl,mz,m7,Msg.v,List.map_nil] at c1 c2 c3 c4 c5 c6
 repeat' (first | intro (hb : _ = _) | refine ZV ?_ | refine ZB tm san_specs_ok ?_ | refine ZH ?_ ?_ | refine ZJ (by conv=>lhs; simp [c1,c2,c3,c4,c5,c6]) ?_ | refine ZA ?_ ?_)
 all_goals (first | refine Yd ?_ | refine Ye ?_)
 all_goals (first | rfl | (simp; done) | (simp_all; done) | (simp_all; omega))
end
section
def R4 (n : Int) : Prop := 0 ≤ n ∧ n < 4
theorem R4_ok {n : Int} (h : R4 n) : okN n = true := by
 obtain ⟨h1,h2⟩:=h
 simp only [okN,Bool.and_eq_true,decide_eq_true_eq]
 omega
structure NtV (n c : Nat) (ls : List Lk) : Prop where
 srt : SrtK ls
 len : ls.length ≤ c
 lk : ∀ l ∈ ls,R4 l.fr ∧ R4 l.to ∧ l.q.length ≤ n ∧ ¬ (l.cut = false ∧ l.q = []) ∧ ∀ m ∈ l.q,m.fr = l.fr ∧ m.to = l.to
theorem NtV.nil : NtV 0 0 [] := ⟨List.Pairwise.nil,Nat.le_refl _,fun l h => (by cases h)⟩
theorem NtV.mono {n c n' c' : Nat} {ls : List Lk} (h : NtV n c ls) (hn : n ≤ n') (hc : c ≤ c') : NtV n' c' ls :=
 ⟨h.srt,Nat.le_trans h.len hc,fun l hl=>by
   obtain ⟨h1,h2,h3,h4⟩:=h.lk l hl
   exact ⟨h1,h2,Nat.le_trans h3 hn,h4⟩⟩
theorem NtV.valid {n c : Nat} {ls : List Lk} (h : NtV n c ls) (hn : n ≤ 4096) : validK ls = true := by
 refine validK_yes fun k hk=>?_
 obtain ⟨a,b,c,d,f⟩:=h.lk _ (List.getElem_mem hk)
 unfold goodK
 rw [List.getElem?_eq_getElem hk]
 have h1 : lkB ls[k] = true:=by
   unfold lkB
   rw [R4_ok a,R4_ok b,decide_eq_true (Nat.le_trans c hn)]
   cases hc : ls[k].cut with
   | true=>rfl
   | false=>cases hq : ls[k].q with
     | nil=>exact absurd ⟨hc,hq⟩ d
     | cons x r=>rfl
 have h2 : ls[k].q.all (fun m=>m.fr == ls[k].fr && m.to == ls[k].to) = true:=by
   rw [List.all_eq_true]
   intro m hm
   obtain ⟨x,y⟩:=f m hm
   simp [x,y]
 simp only [h1,h2,Bool.true_and]
 cases k with
 | zero=>rfl
 | succ i =>
   simp only [List.getElem?_eq_getElem (show i < ls.length by omega)]
   exact List.pairwise_iff_getElem.1 h.srt i (i + 1) (by omega) hk (by omega)
theorem NtV.okK {n c : Nat} {ls : List Lk} (h : NtV n c ls) (hn : n ≤ 4096) : ∀ l ∈ ls,okK l := fun l hl => by
 have:=(h.lk l hl).2.2.1
 unfold Go.Abs.Nx.okK
 omega
theorem NtV.put {n c : Nat} {ls : List Lk} (h : NtV n c ls) {y : Lk} (hf : R4 y.fr) (ht : R4 y.to) (hq : y.q.length ≤ n) (hm : ∀ m ∈ y.q,m.fr = y.fr ∧ m.to = y.to) : NtV n (c + 1) (putK y ls) := by
 refine ⟨srt_part h.srt y,Nat.le_trans (putK_len y ls) (Nat.succ_le_succ h.len),fun l hl=>?_⟩
 by_cases hd : (!y.cut && y.q.isEmpty) = true
 · unfold putK restK at hl
   rw [if_pos hd] at hl
   exact h.lk l (othK_mem hl)
 · rcases putK_mem hl with rfl | hl
   · refine ⟨hf,ht,hq,fun ⟨h1,h2⟩=>hd (by rw [h1,h2]; rfl),hm⟩
   · exact h.lk l hl
theorem NtV.fnd {n c : Nat} {ls : List Lk} (h : NtV n c ls) (f t : Int) : (fndK f t ls).q.length ≤ n ∧ ∀ m ∈ (fndK f t ls).q,m.fr = f ∧ m.to = t := by
 unfold fndK
 cases hf : ls.find? (lkIs f t) with
 | none=>exact ⟨Nat.zero_le _,fun m hm=>by cases hm⟩
 | some l =>
   obtain ⟨e1,e2⟩:=lkIsK_iff.1 (List.find?_some hf)
   obtain ⟨_,_,h1,_,h2⟩:=h.lk l (List.mem_of_find?_eq_some hf)
   rw [e1,e2] at h2
   exact ⟨h1,h2⟩
theorem othK_none (y : Lk) (l : List Lk) : (othK y l).find? (lkIs y.fr y.to) = none := by
 rw [List.find?_eq_none]
 intro x hx hk
 obtain ⟨e1,e2⟩:=lkIsK_iff.1 hk
 have:=(List.mem_filter.1 hx).2
 simp [e1,e2] at this
theorem memK_put (y : Lk) : ∀ l : List Lk,y ∈ putP y l
 | []=>by simp [putP]
 | e :: r=>by
   rw [putP]
   split
   · exact List.mem_cons_of_mem _ (memK_put y r)
   · exact List.mem_cons_self ..
theorem fndK_self {l : List Lk} (hs : SrtK l) (y : Lk) : fndK y.fr y.to (putK y l) = y := by
 by_cases hd : (!y.cut && y.q.isEmpty) = true
 · have e : putK y l = othK y l:=by unfold putK restK; rw [if_pos hd]
   rw [e,fndK,othK_none]
   obtain ⟨a,b,c,q⟩:=y
   cases c <;> cases q <;> first | rfl | simp at hd
 · have e : y ∈ putK y l:=by
     unfold putK restK
     rw [if_neg hd]
     exact memK_put y l
   exact fnd_self (srt_part hs y) y e
theorem srt_ext : ∀ {a b : List Lk},SrtK a → SrtK b → (∀ x,x ∈ a ↔ x ∈ b) → a = b
 | [],[],_,_,_=>rfl
 | [],y :: b,_,_,h=>by have:=(h y).2 (by simp); cases this
 | x :: a,[],_,_,h=>by have:=(h x).1 (by simp); cases this
 | x :: a,y :: b,ha,hb,h=>by
   have ha:=List.pairwise_cons.1 ha
   have hb:=List.pairwise_cons.1 hb
   have irr : ∀ {u v : Lk},befB u v.fr v.to = true → befB v u.fr u.to = true → False:=fun h1 h2=>by
     rw [befK_iff] at h1 h2
     omega
   have hxy : x = y:=by
     rcases List.mem_cons.1 ((h x).1 (by simp)) with e | e
     · exact e
     · rcases List.mem_cons.1 ((h y).2 (by simp)) with e2 | e2
       · exact e2.symm
       · exact (irr (hb.1 x e) (ha.1 y e2)).elim
   subst hxy
   congr 1
   refine srt_ext ha.2 hb.2 fun z=>⟨fun hz=>?_,fun hz=>?_⟩
   · rcases List.mem_cons.1 ((h z).1 (by simp [hz])) with e | e
     · subst e
       exact (irr (ha.1 z hz) (ha.1 z hz)).elim
     · exact e
   · rcases List.mem_cons.1 ((h z).2 (by simp [hz])) with e | e
     · subst e
       exact (irr (hb.1 z hz) (hb.1 z hz)).elim
     · exact e
theorem NtV.sub {n c n' c' : Nat} {a b : List Lk} (ha : NtV n c a) (_hb : NtV n' c' b) (h : ∀ f t,fndK f t a = fndK f t b) (x : Lk) (hx : x ∈ a) : x ∈ b := by
 have e:=fnd_self ha.srt x hx
 rw [h] at e
 unfold fndK at e
 cases hf : b.find? (lkIs x.fr x.to) with
 | none =>
   rw [hf] at e
   have e : (⟨x.fr,x.to,false,[]⟩ : Lk) = x:=e
   exact ((ha.lk x hx).2.2.2.1 ⟨by rw [← e],by rw [← e]⟩).elim
 | some z =>
   rw [hf] at e
   have e : z = x:=e
   rw [← e]
   exact List.mem_of_find?_eq_some hf
theorem NtV.ext {n c n' c' : Nat} {a b : List Lk} (ha : NtV n c a) (hb : NtV n' c' b) (h : ∀ f t,fndK f t a = fndK f t b) : a = b :=
 srt_ext ha.srt hb.srt fun x=>⟨ha.sub hb h x,hb.sub ha (fun f t=>(h f t).symm) x⟩
theorem NtV.fgt {n : Nat} (k : Int) : ∀ {L out : List Lk} {c : Nat},NtV n c out → (∀ l ∈ L,R4 l.fr ∧ R4 l.to) → NtV n (c + L.length) (fgtL k out L)
 | [],out,c,h,_=>h
 | l :: r,out,c,h,hL=>by
   rw [fgtL]
   have hl:=hL l (by simp)
   have:=NtV.fgt (n:=n) k (L:=r) (out:=if tchB k l then putK ⟨l.fr,l.to,l.cut,[]⟩ out else out) (c:=c + 1) (by
     split
     · exact h.put hl.1 hl.2 (Nat.zero_le _) (fun m hm=>by cases hm)
     · exact h.mono (Nat.le_refl _) (Nat.le_succ _)) (fun l hl=>hL l (by simp [hl]))
   exact this.mono (Nat.le_refl _) (by simp only [List.length_cons]; omega)
noncomputable def dlvO (l : Lk) : Msg × Int := match l.q with
 | []=>(mz,6)
 | m :: _=>if l.cut then (mz,8) else (m,0)
theorem dlvN_o {ls : List Lk} (h : validK ls = true) (f t : Int) : (dlvN ls f t).1 = (dlvO (fndK f t ls)).1 ∧ (dlvN ls f t).2.2 = (dlvO (fndK f t ls)).2 := by
 unfold dlvN dlvO
 rw [if_neg (by simp [h])]
 dsimp only
 cases (fndK f t ls).q with
 | nil=>exact ⟨rfl,rfl⟩
 | cons m r=>cases (fndK f t ls).cut <;> exact ⟨rfl,rfl⟩
theorem snd_v {n c : Nat} {ls : List Lk} (h : NtV n c ls) (hn : n < 4096) {m : Msg} (hf : R4 m.fr) (ht : R4 m.to) : sndN ls m = (putK ⟨m.fr,m.to,(fndK m.fr m.to ls).cut,(fndK m.fr m.to ls).q ++ [m]⟩ ls,0) ∧ NtV (n + 1) (c + 1) (putK ⟨m.fr,m.to,(fndK m.fr m.to ls).cut,(fndK m.fr m.to ls).q ++ [m]⟩ ls) := by
 have h2:=h.fnd m.fr m.to
 refine ⟨?_,(h.mono (Nat.le_succ n) (Nat.le_refl c)).put hf ht (by simp; omega) fun x hx=>?_⟩
 · unfold sndN
   rw [if_neg (by simp [h.valid (by omega)]),if_neg (by simp [R4_ok hf,R4_ok ht])]
   dsimp only
   rw [if_neg (by omega),(fnd_ft m.fr m.to).1,(fnd_ft m.fr m.to).2]
 · rcases List.mem_append.1 hx with hx | hx
   · exact h2.2 x hx
   · rw [List.mem_singleton.1 hx]
     exact ⟨rfl,rfl⟩
theorem dlv_v {n c : Nat} {ls : List Lk} (h : NtV n c ls) (hn : n ≤ 4096) {f t : Int} (hf : R4 f) (ht : R4 t) (h0 : (dlvN ls f t).2.2 = 0) : ∃ m r,(fndK f t ls).cut = false ∧ (fndK f t ls).q = m :: r ∧ dlvN ls f t = (m,putK ⟨f,t,false,r⟩ ls,0) ∧ NtV n (c + 1) (putK ⟨f,t,false,r⟩ ls) := by
 have h2:=h.fnd f t
 have h3:=fnd_ft (l:=ls) f t
 unfold dlvN at h0 ⊢
 rw [if_neg (by simp [h.valid hn])] at h0 ⊢
 dsimp only at h0 ⊢
 cases hq : (fndK f t ls).q with
 | nil=>rw [hq] at h0; exact absurd (show (6 : Int) = 0 from h0) (by decide)
 | cons m r =>
   rw [hq] at h0 h2
   cases hc : (fndK f t ls).cut with
   | true=>rw [hc] at h0; exact absurd (show (8 : Int) = 0 from h0) (by decide)
   | false =>
     refine ⟨m,r,rfl,rfl, ?_,h.put hf ht (by have:=h2.1; simp only [List.length_cons] at this; dsimp only; omega) fun x hx=>h2.2 x (by simp [hx])⟩
     rw [h3.1,h3.2]
     rfl
theorem cut_v {n c : Nat} {ls : List Lk} (h : NtV n c ls) {a b : Int} (ha : R4 a) (hb : R4 b) (k : Bool) (h0 : (cutN ls a b k).2 = 0) : NtV n (c + 2) (cutN ls a b k).1 := by
 unfold cutN at h0 ⊢
 split at h0
 · exact absurd h0 (by decide)
 · rename_i h1
   rw [if_neg h1]
   split at h0
   · exact absurd h0 (by decide)
   · rename_i h2
     rw [if_neg h2]
     have e1:=fnd_ft (l:=ls) a b
     have e2:=fnd_ft (l:=ls) b a
     have x1:=h.fnd a b
     have x2:=h.fnd b a
     refine NtV.put (c:=c + 1) (NtV.put h ?_ ?_ ?_ ?_) ?_ ?_ ?_ ?_
     all_goals dsimp only
     all_goals first | rw [e1.1,e1.2] | rw [e2.1,e2.2] | rw [e1.1] | rw [e1.2] | rw [e2.1] | rw [e2.2] | skip
     all_goals first | exact ha | exact hb | exact x1.1 | exact x2.1 | exact x1.2 | exact x2.2
theorem apart {n c : Nat} {ls : List Lk} (h : NtV n c ls) (hn : n < 4096) {m : Msg} (hf : R4 m.fr) (ht : R4 m.to) {k l : Int} (hk : R4 k) (hl : R4 l) (hne : ¬ (m.fr = k ∧ m.to = l)) :
   (sndN ls m).2 = 0 ∧ NtV (n + 1) (c + 1) (sndN ls m).1 ∧ (dlvN (sndN ls m).1 k l).1 = (dlvN ls k l).1 ∧ (dlvN (sndN ls m).1 k l).2.2 = (dlvN ls k l).2.2 ∧ ((dlvN ls k l).2.2 = 0 → NtV n (c + 1) (dlvN ls k l).2.1 ∧ (sndN (dlvN ls k l).2.1 m).2 = 0 ∧ (dlvN (sndN ls m).1 k l).2.1 = (sndN (dlvN ls k l).2.1 m).1 ∧ NtV (n + 1) (c + 2) (sndN (dlvN ls k l).2.1 m).1):=by
 obtain ⟨e1,v1⟩:=snd_v h hn hf ht
 have hne' : ∀ {c q},lkIs k l ⟨m.fr,m.to,c,q⟩ = false:=Bool.eq_false_iff.2 fun h2=>hne (lkIsK_iff.1 h2)
 have hne2 : ∀ {c q},lkIs m.fr m.to ⟨k,l,c,q⟩ = false:=Bool.eq_false_iff.2 fun h2=>hne (by obtain ⟨a,b⟩:=lkIsK_iff.1 h2; exact ⟨a.symm,b.symm⟩)
 have ef : fndK k l (sndN ls m).1 = fndK k l ls:=by rw [e1]; exact fndK_put hne' ls
 have o1:=dlvN_o (h.valid (by omega)) k l
 have o2:=dlvN_o (ls:=(sndN ls m).1) (by rw [e1]; exact v1.valid (by omega)) k l
 rw [ef] at o2
 refine ⟨by rw [e1],by rw [e1]; exact v1,by rw [o1.1,o2.1],by rw [o1.2,o2.2],fun h0=>?_⟩
 have h02 : (dlvN (sndN ls m).1 k l).2.2 = 0:=by rw [o2.2, ← o1.2,h0]
 obtain ⟨p,r,a1,a2,a3,a4⟩:=dlv_v h (by omega) hk hl h0
 obtain ⟨p',r',b1,b2,b3,b4⟩:=dlv_v (ls:=(sndN ls m).1) (by rw [e1]; exact v1) (by omega) hk hl h02
 rw [ef] at b1 b2
 rw [a2] at b2
 cases b2
 rw [a3,b3]
 dsimp only
 obtain ⟨s1,s2⟩:=snd_v a4 hn hf ht
 refine ⟨a4,by rw [s1], ?_,by rw [s1]; exact s2⟩
 refine NtV.ext b4 (by rw [s1]; exact s2) fun f t=>?_
 rw [s1]
 dsimp only
 rw [e1] at b4 ⊢
 dsimp only at b4 ⊢
 by_cases g1 : k = f ∧ l = t
 · obtain ⟨rfl,rfl⟩:=g1
   rw [fndK_self v1.srt ⟨k,l,false,r⟩,fndK_put hne',fndK_self h.srt ⟨k,l,false,r⟩]
 · have g1' : ∀ {c q},lkIs f t ⟨k,l,c,q⟩ = false:=Bool.eq_false_iff.2 fun h2=>g1 (lkIsK_iff.1 h2)
   rw [fndK_put g1']
   by_cases g2 : m.fr = f ∧ m.to = t
   · obtain ⟨rfl,rfl⟩:=g2
     have z1:=fndK_self h.srt ⟨m.fr,m.to,(fndK m.fr m.to ls).cut,(fndK m.fr m.to ls).q ++ [m]⟩
     have z2:=fndK_self a4.srt ⟨m.fr,m.to,(fndK m.fr m.to (putK ⟨k,l,false,r⟩ ls)).cut,(fndK m.fr m.to (putK ⟨k,l,false,r⟩ ls)).q ++ [m]⟩
     dsimp only at z1 z2
     rw [z1,z2,fndK_put hne2]
   · have g2' : ∀ {c q},lkIs f t ⟨m.fr,m.to,c,q⟩ = false:=Bool.eq_false_iff.2 fun h2=>g2 (lkIsK_iff.1 h2)
     rw [fndK_put g2',fndK_put g2',fndK_put g1']
end
section
attribute [local simp] instA
attribute [-simp] mkv
attribute [local simp] mkv_hd hdA_cons hdA_ob hdA_ob'
end
section
attribute [local simp] instA
attribute [-simp] mkv
attribute [local simp] mkv_hd hdA_cons hdA_ob hdA_ob'
def WF := { x : Tks × Int × Tok // x.1.toks[bsT x.1.toks x.2.1]? = some x.2.2 ∧ x.2.2.id = x.2.1 }
theorem WF.ext {x y : WF} (h1 : x.1.1 = y.1.1) (h2 : x.1.2.1 = y.1.2.1) : x = y := by
 obtain ⟨⟨d,i,t⟩,h,hi⟩:=x
 obtain ⟨⟨d',i',t'⟩,h',hi'⟩:=y
 dsimp only at h1 h2 h h'
 subst h1 h2
 rw [h] at h'
 cases h'
 rfl
theorem pn1_eq (a1 a2 : Int) (o : Ob) (a3 : Int) (a4 a5 : Bool) : pn1S [.agg (.int .u64 a1 :: .int .i64 a2 :: (o.cells ++ [.int .i64 a3, .bool a4, .bool a5]))] [] = some (.agg (.int .u64 a1 :: .int .i64 a2 :: (o.cells ++ [.int .i64 a3, .bool true, .bool a5])),[]) :=
 mkS_eq (enc:=fun d : Tok=>[.agg d.c]) (res:=fun d=>(.agg ({ d with pin:=true } : Tok).c,[])) (fun x y h=>by
   simp only [List.cons.injEq,AV.agg.injEq,and_true] at h
   cases Tok.c_inj h
   rfl) ⟨a1,a2,o,a3,a4,a5⟩
attribute [local simp] pn1_eq
end
section
attribute [local simp] instA
attribute [-simp] mkv
attribute [local simp] mkv_hd hdA_cons hdA_ob hdA_ob'
end
section
attribute [local simp] instA
attribute [-simp] mkv
attribute [local simp] mkv_hd hdA_cons hdA_ob hdA_ob'
theorem encO_inj {β : Type} {f : Tok × Ob → β} : ∀ x y,encO x = encO y → f x = f y := fun x y h => by
 obtain ⟨a,b⟩:=x
 obtain ⟨a',b'⟩:=y
 simp only [encO,obB,Prod.mk.injEq,List.cons.injEq,AV.agg.injEq,ABlk.mk.injEq,true_and,and_true] at h
 obtain ⟨h1,h2⟩:=h
 cases Tok.c_inj h1
 cases Td.ext h2
 rfl
theorem pu1_eq (a1 a2 : Int) (o : Ob) (a3 : Int) (a4 a5 : Bool) (q : Ob) : pu1S [.agg (.int .u64 a1 :: .int .i64 a2 :: (o.cells ++ [.int .i64 a3, .bool a4, .bool a5])), .ptr 0 0 0 0] [{ gen := 0,kind := 2,elem := 44,size := 36,inl := false,rows := [q.cells] }] = some (.agg (.int .u64 a1 :: .int .i64 a2 :: (q.cells ++ [.int .i64 a3, .bool a4, .bool a5])),[{ gen := 0,kind := 2,elem := 44,size := 36,inl := false,rows := [q.cells] }]) :=
 mkS2_eq (enc:=encO) (res:=fun d=>(.agg ({ d.1 with obj:=d.2 } : Tok).c,[obB d.2])) encO_inj (⟨a1,a2,o,a3,a4,a5⟩,q)
attribute [local simp] pu1_eq
end
section
attribute [local simp] instA
attribute [-simp] mkv
attribute [local simp] mkv_hd hdA_cons hdA_ob hdA_ob'
end
section
def Srt (l : List Tok) : Prop := l.Pairwise fun a b => a.id < b.id
def At (l : List Tok) (id : Int) (i : Nat) : Prop := i ≤ l.length ∧ ∀ k t,l[k]? = some t → (t.id < id ↔ k < i)
theorem At.zero {x : Tok} {l : List Tok} {id : Int} (h : At (x :: l) id 0) : ¬ x.id < id := fun e => by have := (h.2 0 x rfl).1 e; omega
theorem At.succ {x : Tok} {l : List Tok} {id : Int} {i : Nat} (h : At (x :: l) id (i + 1)) : x.id < id ∧ At l id i :=
 ⟨(h.2 0 x rfl).2 (by omega),by have:=h.1; simp at this; omega,fun k t hk=>by have:=h.2 (k + 1) t (by simpa using hk); omega⟩
theorem Srt.get {l : List Tok} (h : Srt l) {j k : Nat} {s t : Tok} (hj : l[j]? = some s) (hk : l[k]? = some t) (hl : j < k) : s.id < t.id := by
 obtain ⟨h1,e1⟩:=List.getElem?_eq_some_iff.1 hj
 obtain ⟨h2,e2⟩:=List.getElem?_eq_some_iff.1 hk
 have:=List.pairwise_iff_getElem.1 h j k h1 h2 hl
 rw [e1,e2] at this
 exact this
end
section
attribute [local simp] instA
attribute [-simp] mkv
attribute [local simp] mkv_hd hdA_cons hdA_ob hdA_ob'
end
section
attribute [local simp] instA
attribute [-simp] mkv
attribute [local simp] mkv_hd hdA_cons hdA_ob hdA_ob'
end
section
attribute [local simp] instA
attribute [-simp] mkv
attribute [local simp] mkv_hd hdA_cons hdA_ob hdA_ob'
def GI := { x : Tks × Int × Int × Tok // Srt x.1.toks ∧ fnd x.2.1 x.1.toks = some x.2.2.2 }
theorem GI.ext {x y : GI} (h1 : x.1.1 = y.1.1) (h2 : x.1.2.1 = y.1.2.1) (h3 : x.1.2.2.1 = y.1.2.2.1) : x = y := by
 obtain ⟨⟨d,i,m,t⟩,h,hi⟩:=x
 obtain ⟨⟨d',i',m',t'⟩,h',hi'⟩:=y
 dsimp only at h1 h2 h3 hi hi'
 subst h1 h2 h3
 rw [hi] at hi'
 cases hi'
 rfl
end
section

end
section

end
section
attribute [local simp] instA
attribute [-simp] mkv
attribute [local simp] mkv_hd hdA_cons hdA_ob hdA_ob'
end
section
attribute [local simp] instA
attribute [-simp] mkv
attribute [local simp] mkv_hd hdA_cons hdA_ob hdA_ob'
end
section
attribute [local simp] instA
def Raw (t : TypeId) := { xs : List AV // TyR Tryz.prog 8 t xs }
def encR (t : TypeId) (x : Raw t) : List AV := [.agg x.1]
theorem encR_inj (t : TypeId) : ∀ x y : Raw t,encR t x = encR t y → x = y := fun x y h => by
 simp only [encR,List.cons.injEq,AV.agg.injEq,and_true] at h
 exact Subtype.ext h
def Kp (t : TypeId) (x : Raw t) (r : AV × List ABlk) : Prop := ∃ b,r = (.bool b,[]) ∧ (b = true → bdL 10000 x.1 = true)
theorem kp_ne (t : TypeId) (x : Raw t) : ∃ r,Kp t x r := ⟨(.bool false,[]),false,rfl,by simp⟩
theorem bd_instr (rows : List (List AV)) (h : ∀ r ∈ rows,TyR Tryz.prog 8 144 r) : bdRows 10000 rows = true := bdRows_of fun r hr => by
 obtain ⟨x0,x1,x2,x3,rfl, -⟩:=viewInstr (h r hr)
 rfl
theorem bd_str (rows : List (List AV)) (h : ∀ r ∈ rows,TyR Tryz.prog 8 9 r) : bdRows 10000 rows = true := bdRows_of fun r hr => by
 have:=h r hr
 simp only [TyR_string Tryz.underlying9] at this
 obtain ⟨s,rfl, -⟩:=this
 rfl
theorem bd_int {t : TypeId} {k : IntKind} (hu : Tryz.prog.underlying t = some (.int k)) (rows : List (List AV)) (h : ∀ r ∈ rows,TyR Tryz.prog 8 t r) : bdRows 10000 rows = true := bdRows_of fun r hr => by
 have:=h r hr
 simp only [TyR_int hu] at this
 obtain ⟨m,rfl, -⟩:=this
 rfl
theorem bd_page (rows : List (List AV)) (h : ∀ r ∈ rows,TyR Tryz.prog 8 128 r) : bdRows 10000 rows = true := bdRows_of fun r hr => by
 obtain ⟨x0,x1,rfl, -⟩:=viewPageRef (h r hr)
 rfl
theorem bd_slot (rows : List (List AV)) (h : ∀ r ∈ rows,TyR Tryz.prog 8 131 r) : bdRows 10000 rows = true := bdRows_of fun r hr => by
 obtain ⟨x0,x1,x2,x3,rfl, -⟩:=viewSlot (h r hr)
 rfl
theorem kpP_ex : ∃ S,FnC Tryz.prog 23 S ∧ ∀ x : Raw 31, ∃ r,S (encR _ x) [] = some r ∧ Kp _ x r := by
 refine FnC.existsA 23 (fn:=Tryz.f23) Tryz.func23 rfl (by kernel_rfl) (encR_inj _) (kp_ne _) fun x=>?_
 obtain ⟨xs,hx⟩:=x
 obtain ⟨x0,x1,x2,rfl,h0,h1, -⟩:=viewProgram hx
 change W _ _ _ _ ⟨26,[(0, .agg [.list 4 x0, .list 1 x1, .int .i64 x2])],[]⟩
 try refine ZT ?_
 refine ZK tm no_specs rfl (by conv=>lhs; simp) fun _=>?_
 try refine ZT ?_
 refine ZK tm no_specs rfl (by conv=>lhs; simp) fun hA=>?_
 have capA : x1.length ≤ maxLen:=hA
 have cap : x1.length ≤ 9223372036854775807:=by simpa [maxLen] using capA
 try refine ZT ?_
 refine W.loop rfl (ι:={ q : Nat × NL ABlk // q.1 ≤ x1.length ∧ lk q.2 32 = some { gen:=1,kind:=2,elem:=31,size:=3,inl:=false,rows:=[[.list 4 x0, .list 1 x1, .int .i64 x2]] } })
   (fun q=>⟨26,[(1, .ptr 32 1 0 0),(6, .list 1 x1),(7, .int .i64 x1.length),(8, .int .i64 (q.1.1 : Nat))],q.1.2⟩) (fun q=>x1.length - q.1.1)
   ⟨(0,_),by simp,rfl⟩ (AS.le_of rfl ⟨rfl,rfl,rfl,rfl,trivial⟩ (fun _=>rfl)) ?_
 rintro ⟨⟨k,h⟩,hk,h2⟩
 dsimp only at hk h2 ⊢
 by_cases hk2 : k = x1.length
 · subst hk2
   repeat' (first | intro (hb : _ = _) | refine ZV ?_ | refine ZB tm no_specs ?_ | refine ZH ?_ ?_ | refine ZJ (by conv=>lhs; simp [h2]) ?_ | refine ZA ?_ ?_)
   · refine ⟨(.bool _,[]),⟨_,rfl, ?_⟩,Yr⟩
     intro hc
     have e0 : x0.length ≤ 300:=by have:=of_decide_eq_true hb; omega
     have e1 : x1.length ≤ 40:=by have:=of_decide_eq_true hc; omega
     simp only [bdL,bdV,bd_instr x0 h0,bd_str x1 h1,Bool.and_true,Bool.and_eq_true,decide_eq_true_eq]
     omega
   · refine ⟨(.bool _,[]),⟨_,rfl, ?_⟩,Yr⟩
     intro hc
     cases hc
 · have hlt : k < x1.length:=by omega
   obtain ⟨row,hr⟩:=get_lt hlt
   have ht:=h1 row (List.mem_of_getElem? hr)
   simp only [TyR_string Tryz.underlying9] at ht
   obtain ⟨s,rfl,hs⟩:=ht
   have q1 : (k : Int) < x1.length:=by omega
   have q2 : ¬ x1.length ≤ k:=by omega
   have hw : IntKind.i64.wrap ((k : Int) + 1) = ((k + 1 : Nat) : Int):=w64 (by omega) (by omega)
   clear hlt hk2
   repeat' (first | intro (hb : _ = _) | refine ZV ?_ | refine ZB tm no_specs ?_ | refine ZH ?_ ?_ | refine ZJ (by conv=>lhs; simp [q1,q2,hr,hw,h2,hs]) ?_ | refine ZA ?_ ?_)
   · refine ⟨(.bool _,[]),⟨_,rfl, ?_⟩,Yr⟩
     intro hc
     cases hc
   · exact ⟨⟨(k + 1,_),by dsimp only; omega,h2⟩,by dsimp only; omega,AS.le_of rfl ⟨rfl,rfl,rfl,rfl,trivial⟩ (fun _=>rfl)⟩
end
section
attribute [local simp] instA
set_option maxHeartbeats 8000000
theorem kpO_ex : ∃ S,FnC Tryz.prog 6 S ∧ ∀ x : Raw 44, ∃ r,S (encR _ x) [] = some r ∧ Kp _ x r := by
 obtain ⟨SP,hSP,hSPe⟩:=kpP_ex
 have specs_ok : ∀ p ∈ ([(23,⟨1,SP⟩)] : NL Spec),FnC Tryz.prog p.1 p.2.fn:=by
   simp only [List.mem_cons,List.not_mem_nil,or_false]
   rintro p rfl
   exact hSP
 refine FnC.existsA 6 (fn:=Tryz.f6) Tryz.func6 rfl (by kernel_rfl) (encR_inj _) (kp_ne _) fun x=>?_
 obtain ⟨xs,hx⟩:=x
 obtain ⟨x0,x1,x2,xp,x4,x5,x6,x7,x8,x9,x10,x11,x12,x13,x14,x15,x16,rfl, -, -, -,hp,h4,h5, -, -, -, -,h10,h11,h12, -, -, -,h16⟩:=viewObject hx
 obtain ⟨y0,y1,y2,yp,yc,y5,y6,y7,y8,y9,rfl, -, -,g2,hpp,hpc,g5,g6, -, -, -⟩:=viewProcess hp
 obtain ⟨p0,p1,p2,rfl,k0,k1, -⟩:=viewProgram hpp
 obtain ⟨c0,c1,c2,c3,c4,c5,c6,c7,c8,rfl, -⟩:=viewCPU hpc
 obtain ⟨rP,cP,bP,rfl,hbP⟩:=hSPe ⟨_,hpp⟩
 simp only [encR] at cP
 dsimp only at hbP
 change W _ _ _ _ ⟨85,[(0, .agg [.int .u64 x0, .int .i64 x1, .int .i64 x2, .int .i64 y0, .int .u64 y1, .list 1 y2, .list 4 p0, .list 1 p1, .int .i64 p2, .int .i64 c0, .int .i64 c1, .int .i64 c2, .int .i64 c3, .int .i64 c4, .int .i64 c5, .int .i64 c6, .int .i64 c7, .int .i64 c8, .list 2 y5, .list 4 y6, .int .i64 y7, .int .i64 y8, .int .i64 y9, .list 1 x4, .list 1 x5, .int .i64 x6, .int .u64 x7, .int .i64 x8, .int .i64 x9, .list 1 x10, .list 1 x11, .list 1 x12, .int .i64 x13, .int .i64 x14, .int .i64 x15, .list 3 x16])],[]⟩
 try refine ZT ?_
 refine ZK tm specs_ok rfl (by conv=>lhs; simp) fun _=>?_
 try refine ZT ?_
 refine ZK tm specs_ok rfl (by conv=>lhs; simp) fun hA=>?_
 have cap : x16.length ≤ 9223372036854775807:=by simpa [maxLen] using hA
 try refine ZT ?_
 refine W.loop rfl (ι:={ q : Nat × NL ABlk // q.1 ≤ x16.length ∧ (∀ r ∈ x16.take q.1,bdL 10000 r = true) ∧ lk q.2 32 = some { gen:=1,kind:=2,elem:=44,size:=36,inl:=false,rows:=[[.int .u64 x0, .int .i64 x1, .int .i64 x2, .int .i64 y0, .int .u64 y1, .list 1 y2, .list 4 p0, .list 1 p1, .int .i64 p2, .int .i64 c0, .int .i64 c1, .int .i64 c2, .int .i64 c3, .int .i64 c4, .int .i64 c5, .int .i64 c6, .int .i64 c7, .int .i64 c8, .list 2 y5, .list 4 y6, .int .i64 y7, .int .i64 y8, .int .i64 y9, .list 1 x4, .list 1 x5, .int .i64 x6, .int .u64 x7, .int .i64 x8, .int .i64 x9, .list 1 x10, .list 1 x11, .list 1 x12, .int .i64 x13, .int .i64 x14, .int .i64 x15, .list 3 x16]] } })
   (fun q=>⟨85,[(1, .ptr 32 1 0 0),(7, .list 3 x16),(8, .int .i64 x16.length),(9, .int .i64 (q.1.1 : Nat))],q.1.2⟩) (fun q=>x16.length - q.1.1)
   ⟨(0,_),by simp,by simp,rfl⟩ (AS.le_of rfl ⟨rfl,rfl,rfl,rfl,trivial⟩ (fun _=>rfl)) ?_
 rintro ⟨⟨k,h⟩,hk,hbd,h2⟩
 dsimp only at hk hbd h2 ⊢
 by_cases hk2 : k = x16.length
 · subst hk2
   rw [List.take_length] at hbd
   repeat' (first | intro (hb : _ = _) | refine ZV ?_ | refine ZB tm specs_ok ?_ | refine ZH ?_ ?_ | refine ZJ (by conv=>lhs; simp [h2,cP]) ?_ | refine ZA ?_ ?_)
   all_goals (refine ⟨(.bool _,[]),⟨_,rfl, ?_⟩,Yr⟩)
   all_goals intro hc
   all_goals first
     | (cases hc; done)
     | (have hPb:=hbP (by assumption)
        have r1:=bd_int Tryz.underlying26 y2 g2
        have r2:=bd_page y5 g5
        have r3:=bd_slot y6 g6
        have r4:=bd_int Tryz.underlying2 x4 h4
        have r5:=bd_int Tryz.underlying5 x5 h5
        have r6:=bd_int Tryz.underlying26 x10 h10
        have r7:=bd_int Tryz.underlying5 x11 h11
        have r8:=bd_int Tryz.underlying5 x12 h12
        have r9:=bdRows_of hbd
        clear h2 cP hA
        simp only [bdL,bdV,Bool.and_eq_true,decide_eq_true_eq,Bool.and_true] at *
        simp only [List.cons_append,List.nil_append,bdL,bdV,r1,r2,r3,r4,r5,r6,r7,r8,r9,hPb,Bool.and_true,Bool.and_eq_true,decide_eq_true_eq,true_and,and_true]
        omega)
 · have hlt : k < x16.length:=by omega
   obtain ⟨row,hr⟩:=get_lt hlt
   obtain ⟨n0,n1,n2,rfl, -,hn2⟩:=viewName (h16 row (List.mem_of_getElem? hr))
   have q1 : (k : Int) < x16.length:=by omega
   have q2 : ¬ x16.length ≤ k:=by omega
   have hw : IntKind.i64.wrap ((k : Int) + 1) = ((k + 1 : Nat) : Int):=w64 (by omega) (by omega)
   clear hlt hk2
   have ht : x16.take (k + 1) = x16.take k ++ [[.str n0, .int .i64 n1, .list 1 n2]]:=by rw [List.take_add_one,hr]; rfl
   repeat' (first | intro (hb : _ = _) | refine ZV ?_ | refine ZB tm specs_ok ?_ | refine ZH ?_ ?_ | refine ZJ (by conv=>lhs; simp [q1,q2,hr,hw,h2]) ?_ | refine ZA ?_ ?_)
   all_goals first
     | (refine ⟨(.bool false,[]),⟨false,rfl,fun hc=>by cases hc⟩,Yr⟩; done)
     | skip
   · have e0 : n2.length ≤ 20:=by have:=of_decide_eq_false hb; omega
     refine ⟨⟨(k + 1,_),by dsimp only; omega, ?_,by simp [lk_st,h2]⟩,by dsimp only; omega,AS.le_of rfl ⟨rfl,rfl,rfl,rfl,trivial⟩ (fun _=>rfl)⟩
     dsimp only
     rw [ht]
     intro r hr
     rcases List.mem_append.1 hr with hr | hr
     · exact hbd r hr
     · rw [List.mem_singleton] at hr
       subst hr
       simp only [bdL,bdV,bd_int Tryz.underlying26 n2 hn2,Bool.and_true,Bool.true_and,true_and,and_true,decide_eq_true_eq]
       omega
end
section
attribute [local simp] instA
attribute [-simp] mkv
attribute [local simp] mkv_hd hdA_cons hdA_ob hdA_ob'
theorem raw_len {xs : List AV} (h : TyR Tryz.prog 8 44 xs) : xs.length = 36 := by
 rw [← (h.nrm (by omega)).1,obLeafs]
theorem raw_all {xs : List AV} (h : TyR Tryz.prog 8 44 xs) : xs.all AV.dat = true := h.dat
end
section
theorem Msg.v_inj {a b : Msg} (h : a.v = b.v) : a = b := by
 obtain ⟨a1,a2,a3,a4,a5,o,a6,a7,a8,a9⟩:=a
 obtain ⟨b1,b2,b3,b4,b5,q,b6,b7,b8,b9⟩:=b
 simp only [Msg.v,List.cons.injEq,AV.int.injEq,true_and] at h
 obtain ⟨rfl,rfl,rfl,rfl,rfl,h⟩:=h
 obtain ⟨h1,h2⟩:=List.append_inj h (by simp)
 simp only [List.cons.injEq,AV.int.injEq,true_and,and_true] at h2
 obtain ⟨rfl,rfl,rfl,rfl⟩:=h2
 rw [Td.ext h1]
end
section
attribute [local simp] instA
attribute [-simp] mkv
attribute [local simp] mkv_hd hdA_cons hdA_ob hdA_ob'
def sumQ : List Lk → Nat
 | []=>0
 | e :: r=>1 + e.q.length + sumQ r
theorem sumQ_app : ∀ (a : List Lk) (e : Lk),sumQ (a ++ [e]) = sumQ a + (1 + e.q.length)
 | [],e=>by simp [sumQ]
 | x :: r,e=>by rw [List.cons_append,sumQ,sumQ,sumQ_app r e]; omega
theorem sumQ_len : ∀ L : List Lk,L.length ≤ sumQ L
 | []=>Nat.le_refl _
 | e :: r=>by have:=sumQ_len r; rw [List.length_cons,sumQ]; omega
theorem sumQ_mem : ∀ {L : List Lk} {e : Lk},e ∈ L → e.q.length ≤ sumQ L
 | x :: r,e,h=>by
   rw [sumQ]
   rcases List.mem_cons.1 h with rfl | h
   · omega
   · have:=sumQ_mem h
     omega
theorem viewNet {xs : List AV} (h : TyR Tryz.prog 12 24 xs) : ∃ rows : List (List AV),xs = [.list 4 rows] ∧ (∀ r ∈ rows,TyR Tryz.prog 10 70 r) := by
 simp only [TyFs,TyR_slice Tryz.underlying22,TyR_struct Tryz.underlying24,cK,List.map_cons,List.map_nil,List.replicate] at h
 obtain ⟨_,_,rfl,⟨x1,rfl,_,w1⟩,rfl⟩:=h
 exact ⟨x1,by simp only [List.append_nil],w1⟩
theorem cM45 : Tryz.prog.cellsOf 46 = 45 := by kernel_rfl
theorem viewLinkN {xs : List AV} (h : TyR Tryz.prog 10 70 xs) : ∃ (x0 : Int) (x1 : Int) (x2 : Bool) (x3 : List (List AV)),xs = [.int .i64 x0, .int .i64 x1, .bool x2, .list 45 x3] ∧ (∀ r ∈ x3,TyR Tryz.prog 8 46 r) := by
 simp only [TyFs,TyR_int Tryz.underlying3,TyR_bool Tryz.underlying4,TyR_slice Tryz.underlying55,TyR_struct Tryz.underlying70,cM45,List.map_cons,List.map_nil,List.replicate] at h
 obtain ⟨_,_,rfl,⟨x0,rfl,w0⟩,⟨_,_,rfl,⟨x1,rfl,w1⟩,⟨_,_,rfl,⟨x2,rfl⟩,⟨_,_,rfl,⟨x3,rfl,_,w3⟩,rfl⟩⟩⟩⟩:=h
 exact ⟨x0,x1,x2,x3,by simp only [List.cons_append,List.nil_append,List.append_nil,List.append_assoc],w3⟩
def RawN := { xs : List AV // TyR Tryz.prog 12 24 xs ∧ bdL 1048576 xs = true }
def encRN (x : RawN) : List AV := [.agg x.1, .int .i64 20]
theorem encRN_inj : ∀ x y : RawN,encRN x = encRN y → x = y := fun x y h => by
 simp only [encRN,List.cons.injEq,AV.agg.injEq,and_true] at h
 exact Subtype.ext h
def KpN (x : RawN) (r : AV × List ABlk) : Prop := ∃ b,r = (.bool b,[]) ∧ (b = true → ∃ l : List Lk,x.1 = [.list 4 (l.map lkC)] ∧ l.length ≤ 20 ∧ ∀ e ∈ l,e.q.length ≤ 20)
theorem KpN.ne (x : RawN) : ∃ r,KpN x r := ⟨(.bool false,[]),false,rfl,by simp⟩
theorem kpN_ex : ∃ S,FnC Tryz.prog 5 S ∧ ∀ x : RawN, ∃ r,S (encRN x) [] = some r ∧ KpN x r := by
 obtain ⟨SO,hSO,hSOe⟩:=kpO_ex
 have specs_ok : ∀ p ∈ ([(6,⟨1,SO⟩)] : NL Spec),FnC Tryz.prog p.1 p.2.fn:=by
   simp only [List.mem_cons,List.not_mem_nil,or_false]
   rintro p rfl
   exact hSO
 refine FnC.existsA 5 (fn:=Tryz.f5) Tryz.func5 rfl (by kernel_rfl) encRN_inj KpN.ne fun x=>?_
 obtain ⟨xs,hx,hb⟩:=x
 obtain ⟨rows,rfl,hrows⟩:=viewNet hx
 simp only [bdL,bdV,Bool.and_true,Bool.and_eq_true,decide_eq_true_eq] at hb
 obtain ⟨hM,hb⟩:=hb
 change W _ _ _ _ ⟨39,[(0, .agg [.list 4 rows]),(1, .int .i64 20)],[]⟩
 have cap : rows.length ≤ 9223372036854775807:=Nat.le_trans hM (by decide)
 repeat' (first | intro (hb : _ = _) | refine ZV ?_ | refine ZB tm specs_ok ?_ | refine ZH ?_ ?_ | refine ZJ (by conv=>lhs; simp [cap]) ?_ | refine ZA ?_ ?_)
 refine W.loop rfl (ι:={ q : Nat × Nat × NL ABlk // q.1 ≤ rows.length ∧ (∃ L : List Lk,rows.take q.1 = L.map lkC ∧ q.2.1 = sumQ L) ∧ q.2.1 ≤ q.1 * 1048577 })
   (fun q=>⟨39,[(1, .int .i64 20),(5, .int .i64 (q.1.2.1 : Nat)),(11, .list 4 rows),(12, .int .i64 rows.length),(13, .int .i64 (q.1.1 : Nat))],q.1.2.2⟩) (fun q=>rows.length - q.1.1)
   ⟨(0,0,_),by simp,⟨[],by simp,rfl⟩,by simp⟩ (AS.le_of rfl ⟨rfl,rfl,rfl,rfl,rfl,trivial⟩ (fun _=>rfl)) ?_
 rintro ⟨⟨k,K,H⟩,hk,⟨L,hL,hK⟩,hKb⟩
 dsimp only at hk hL hK hKb ⊢
 by_cases hk2 : k = rows.length
 · subst hk2
   rw [List.take_length] at hL
   have q1 : ¬ (rows.length : Int) < rows.length:=by omega
   repeat' (first | intro (hb : _ = _) | refine ZV ?_ | refine ZB tm specs_ok ?_ | refine ZH ?_ ?_ | refine ZJ (by conv=>lhs; simp [q1]) ?_ | refine ZA ?_ ?_)
   refine ⟨(.bool _,[]),⟨_,rfl, ?_⟩,Yr⟩
   intro hc
   have h20 : (K : Int) ≤ 20:=of_decide_eq_true hc
   refine ⟨L,by show [AV.list 4 rows] = _; rw [hL], ?_,fun e he=>?_⟩
   · have:=sumQ_len L
     omega
   · have:=sumQ_mem he
     omega
 have hlt : k < rows.length:=by omega
 obtain ⟨row,hr⟩:=get_lt hlt
 have hmem:=List.mem_of_getElem? hr
 obtain ⟨a,b,c,qr,rfl,hqr⟩:=viewLinkN (hrows row hmem)
 have hbr:=bdRows_mem hb hmem
 simp only [bdL,bdV,Bool.and_true,Bool.true_and,Bool.and_eq_true,decide_eq_true_eq] at hbr
 obtain ⟨hqM, -⟩:=hbr
 have q1 : (k : Int) < rows.length:=by omega
 have q2 : ¬ rows.length ≤ k:=by omega
 have hw : IntKind.i64.wrap ((k : Int) + 1) = ((k + 1 : Nat) : Int):=w64 (by omega) (by omega)
 have capq : qr.length ≤ 9223372036854775807:=Nat.le_trans hqM (by decide)
 have hw1 : IntKind.i64.wrap (1 + (qr.length : Int)) = ((1 + qr.length : Nat) : Int):=by rw [w64 (by omega) (by omega)]; omega
 have hw2 : IntKind.i64.wrap ((K : Int) + ((1 + qr.length : Nat) : Int)) = ((K + (1 + qr.length) : Nat) : Int):=by rw [w64 (by omega) (by omega)]; omega
 obtain ⟨nq,hnq⟩ : ∃ n,1 + qr.length = n:=⟨_,rfl⟩
 rw [hnq] at hw1 hw2
 have ht : rows.take (k + 1) = rows.take k ++ [[.int .i64 a, .int .i64 b, .bool c, .list 45 qr]]:=by rw [List.take_add_one,hr]; rfl
 have hK2 : K + nq ≤ (k + 1) * 1048577:=by omega
 clear hb hM cap hqM
 repeat' (first | intro (hb : _ = _) | refine ZV ?_ | refine ZB (id:=3) tm specs_ok ?_ | refine ZB (id:=4) tm specs_ok ?_ | refine ZB (id:=5) tm specs_ok ?_ | refine ZB (id:=6) tm specs_ok ?_ | refine ZH ?_ ?_ | refine ZJ (by conv=>lhs; simp [q1,q2,hr,capq,hw1,hw2]) ?_ | refine ZA ?_ ?_)
 refine W.loop rfl (ι:={ q : Nat × NL ABlk // q.1 ≤ qr.length ∧ ∃ Q : List Msg,qr.take q.1 = Q.map Msg.v })
   (fun q=>⟨39,[(1, .int .i64 20),(5, .int .i64 ((K + nq : Nat) : Int)),(11, .list 4 rows),(12, .int .i64 rows.length),(13, .int .i64 (k : Nat)),(24, .list 45 qr),(25, .int .i64 qr.length),(26, .int .i64 (q.1.1 : Nat))],q.1.2⟩) (fun q=>qr.length - q.1.1)
   ⟨(0,_),by simp,⟨[],by simp⟩⟩ (AS.le_of rfl ⟨rfl,rfl,rfl,rfl,rfl,rfl,rfl,rfl,trivial⟩ (fun _=>rfl)) ?_
 rintro ⟨⟨j,G⟩,hj,Q,hQ⟩
 dsimp only at hj hQ ⊢
 by_cases hj2 : j = qr.length
 · subst hj2
   rw [List.take_length] at hQ
   have q3 : ¬ (qr.length : Int) < qr.length:=by omega
   repeat' (first | intro (hb : _ = _) | refine ZV ?_ | refine ZB tm specs_ok ?_ | refine ZH ?_ ?_ | refine ZJ (by conv=>lhs; simp [q3,hw]) ?_ | refine ZA ?_ ?_)
   refine ⟨⟨(k + 1,K + nq,_),hlt,⟨L ++ [⟨a,b,c,Q⟩], ?_, ?_⟩,hK2⟩,by dsimp only; omega,AS.le_of rfl ⟨rfl,rfl,rfl,rfl,rfl,trivial⟩ (fun _=>rfl)⟩
   · dsimp only
     rw [ht,hL,hQ]
     simp [lkC]
   · dsimp only
     rw [sumQ_app, ← hK, ← hnq,hQ]
     simp
 have hlt2 : j < qr.length:=by omega
 obtain ⟨mr,hm⟩:=get_lt hlt2
 obtain ⟨x0,x1,x2,x3,x4,xo,x6,x7,x8,x9,rfl, -, -, -, -, -,hxo, -, -, -, -⟩:=viewMessage (hqr mr (List.mem_of_getElem? hm))
 obtain ⟨r,cO,bO,rfl,hbO⟩:=hSOe ⟨xo,hxo⟩
 simp only [encR] at cO
 dsimp only at hbO
 have r3:=raw_len hxo
 have r0:=raw_all hxo
 have hc : xo.all AV.cellish = true:=by rw [List.all_eq_true] at r0 ⊢; intro x hx; exact (dat_split (r0 x hx)).1
 have hi : xo.all AV.isInl = true:=by rw [List.all_eq_true] at r0 ⊢; intro x hx; exact (dat_split (r0 x hx)).2
 have r4 : ∀ (l : List AV) (n : Nat),36 ≤ n → (xo ++ l).take n = xo ++ l.take (n - 36):=fun l n h=>by rw [List.take_append,r3,List.take_of_length_le (by omega)]
 have r5 : ∀ (l : List AV) (n : Nat),36 ≤ n → (xo ++ l).drop n = l.drop (n - 36):=fun l n h=>by rw [List.drop_append,r3,List.drop_eq_nil_of_le (by omega),List.nil_append]
 have r6 : ∀ b : Bool,xo.all (fun x=>x.cellish && (!b || x.isInl)) = true:=fun b=>by
   rw [List.all_eq_true] at hc hi ⊢
   intro x hx
   simp [hc x hx,hi x hx]
 have q3 : (j : Int) < qr.length:=by omega
 have q4 : ¬ qr.length ≤ j:=by omega
 have hw3 : IntKind.i64.wrap ((j : Int) + 1) = ((j + 1 : Nat) : Int):=w64 (by omega) (by omega)
 have ht2 : qr.take (j + 1) = qr.take j ++ [.int .i64 x0 :: .int .i64 x1 :: .int .i64 x2 :: .int .u64 x3 :: .int .i64 x4 :: (xo ++ [.int .u64 x6, .int .i64 x7, .int .u64 x8, .int .i64 x9])]:=by rw [List.take_add_one,hm]; rfl
 cases bO with
 | false =>
   repeat' (first | intro (hb : _ = _) | refine ZV ?_ | refine ZB tm specs_ok ?_ | refine ZH ?_ ?_ | refine ZJ (by conv=>lhs; simp [q3,q4,hm,hw3,cO,r3,r4,r5,hc,hi,r6]) ?_ | refine ZA ?_ ?_)
   exact ⟨(.bool false,[]),⟨false,rfl,fun hc=>by cases hc⟩,Yr⟩
 | true =>
   repeat' (first | intro (hb : _ = _) | refine ZV ?_ | refine ZB tm specs_ok ?_ | refine ZH ?_ ?_ | refine ZJ (by conv=>lhs; simp [q3,q4,hm,hw3,cO,r3,r4,r5,hc,hi,r6]) ?_ | refine ZA ?_ ?_)
   refine ⟨⟨(j + 1,_),by dsimp only; omega,Q ++ [⟨x0,x1,x2,x3,x4,⟨xo,hxo,hbO rfl⟩,x6,x7,x8,x9⟩], ?_⟩,by dsimp only; omega,AS.le_of rfl ⟨rfl,rfl,rfl,rfl,rfl,rfl,rfl,rfl,trivial⟩ (fun _=>rfl)⟩
   dsimp only
   rw [ht2,hQ]
   simp [Msg.v]
end
section
attribute [local simp] instA slice3A slice3C
attribute [-simp] mkv
attribute [local simp] mkv_hd hdA_cons hdA_ob hdA_ob'
noncomputable def pry_specs : NL Spec := [(21,⟨1,vkS⟩)]
theorem pry_specs_ok : ∀ p ∈ pry_specs,FnC Tryz.prog p.1 p.2.fn := by
 simp only [pry_specs,List.mem_cons,List.not_mem_nil,or_false]
 rintro p rfl
 exact vap2_ok
attribute [local simp] pry_specs
theorem pry_ok : FnC Tryz.prog 19 rdyS := by
 refine FnC.walkN 19 (fn:=Tryz.f19) [60] Tryz.func19 rfl (by kernel_rfl) (fun x=>?_) (fun x=>⟨_,rdy_nrmR _⟩)
 obtain ⟨l,hl,he⟩:=x
 have cv:=vkS_eq ⟨l,hl,he⟩
 simp only [Nts.v] at cv
 change W _ (RetNf _ _ _ (.list 2 ((rdyN l).map pC)) []) _ _ ⟨35,[(0, .agg [.list 4 (l.map lkC)])],[]⟩
 generalize hR : rdyN l = R
 unfold rdyN at hR
 have cap : l.length ≤ 9223372036854775807:=by omega
 cases hv : validK l with
 | false =>
   rw [if_pos hv] at hR
   subst hR
   rw [hv] at cv
   repeat' (first | intro (hb : _ = _) | refine ZV ?_ | refine ZB tm pry_specs_ok ?_ | refine ZH ?_ ?_ | refine ZJ (by conv=>lhs; simp [cv]) ?_ | refine ZA ?_ ?_)
   refine Ye ?_
   exact rdy_nrm0
 | true =>
   rw [if_neg (by simp [hv])] at hR
   rw [hv] at cv
   repeat' (first | intro (hb : _ = _) | refine ZV ?_ | refine ZB (id:=0) tm pry_specs_ok ?_ | refine ZB (id:=1) tm pry_specs_ok ?_ | refine ZB (id:=2) tm pry_specs_ok ?_ | refine ZB (id:=3) tm pry_specs_ok ?_ | refine ZB (id:=4) tm pry_specs_ok ?_ | refine ZH ?_ ?_ | refine ZJ (by conv=>lhs; simp [cv,cap]) ?_ | refine ZA ?_ ?_)
   refine W.phantom (t:=3) 20000 41 2 true (by rfl) (by rfl) (by decide) ?_
   refine W.loop rfl (ι:={ q : Nat × List (Int × Int) × Nat × NL ABlk // q.1 ≤ l.length ∧ q.2.1 ++ rdyL (l.drop q.1) = R ∧ q.2.1.length ≤ q.1 ∧ lk q.2.2.2 20000 = some { gen:=q.2.2.1,kind:=2,elem:=41,size:=2,inl:=true,rows:=q.2.1.map pC } })
     (fun q=>⟨35,[(3, .sl 20000 q.1.2.2.1 0 q.1.2.1.length),(10, .list 4 (l.map lkC)),(11, .int .i64 l.length),(12, .int .i64 (q.1.1 : Nat))],q.1.2.2.2⟩) (fun q=>l.length - q.1.1)
     ⟨(0,[],0,_),by simp,by simpa using hR,by simp,by simp [lk,lk_st]⟩ (AS.le_of rfl ⟨rfl,rfl,rfl,rfl,trivial⟩ (fun _=>rfl)) ?_
   clear cv hR
   rintro ⟨⟨k,T,g,H⟩,hk,res,hT,gM⟩
   dsimp only at hk res hT gM ⊢
   by_cases hk2 : k = l.length
   · subst hk2
     rw [List.drop_length] at res
     have res : T = R:=by simpa [rdyL] using res
     subst res
     have tT : List.take T.length (T.map pC) = T.map pC:=List.take_of_length_le (by simp)
     repeat' (first | intro (hb : _ = _) | refine ZV ?_ | refine ZB tm pry_specs_ok ?_ | refine ZH ?_ ?_ | refine ZJ (by conv=>lhs; simp) ?_ | refine ZA ?_ ?_)
     refine RetNf.dataE rfl (by conv=>lhs; simp) (by conv=>lhs; simp [frqT,frqV,frqL,frq1,frz1,AP.run,gM,tT]) (by first | rfl | simp [inlT,inlV]) ?_
     exact rdy_nrmR T
   · have hlt : k < l.length:=by omega
     obtain ⟨e,hr⟩:=get_lt hlt
     have hm : (l.map lkC)[k]? = some (lkC e):=by rw [List.getElem?_map,hr]; rfl
     have hd : l.drop k = e :: l.drop (k + 1):=by
       obtain ⟨h1,h2⟩:=List.getElem?_eq_some_iff.1 hr
       rw [List.drop_eq_getElem_cons h1,h2]
     rw [hd] at res
     have capq : e.q.length ≤ 9223372036854775807:=by have:=he e (List.mem_of_getElem? hr); unfold okK at this; omega
     have q1 : (k : Int) < l.length:=by omega
     have q2 : ¬ l.length ≤ k:=by omega
     have hw : IntKind.i64.wrap ((k : Int) + 1) = ((k + 1 : Nat) : Int):=w64 (by omega) (by omega)
     obtain ⟨e1,e2,e3,q⟩:=e
     simp only [lkC] at hm
     have hne : e3 = false → 0 < q.length:=fun h3=>by
       have:=lkB_ne (valid_mem hv hr)
       cases q with
       | nil=>exact absurd ⟨h3,rfl⟩ this
       | cons a r=>exact Nat.succ_pos _
     clear hd hr
     cases e3 with
     | true =>
       have res : T ++ rdyL (l.drop (k + 1)) = R:=by rw [← res]; rfl
       repeat' (first | intro (hb : _ = _) | refine ZV ?_ | refine ZB tm pry_specs_ok ?_ | refine ZH ?_ ?_ | refine ZJ (by conv=>lhs; simp [q1,q2,hm,hw]) ?_ | refine ZA ?_ ?_)
       exact ⟨⟨(k + 1,T,g,_),hlt,res,by dsimp only; omega,by simp [lk_st,gM]⟩,by dsimp only; omega,AS.le_of rfl ⟨rfl,rfl,rfl,rfl,trivial⟩ (fun _=>rfl)⟩
     | false =>
       have hne:=hne rfl
       have hne' : (0 : Int) < q.length:=by omega
       have res : (T ++ [(e1,e2)]) ++ rdyL (l.drop (k + 1)) = R:=by rw [← res,List.append_assoc]; rfl
       have hrow : T.map pC ++ [[.int .i64 e1, .int .i64 e2]] = (T ++ [(e1,e2)]).map pC:=by simp [pC]
       have hl2 : (T ++ [(e1,e2)]).length = T.length + 1:=by simp
       have y1 : T.length ≤ maxLen:=by simp only [maxLen]; omega
       have y2 : (T.length + 1) * 16 ≤ 140737488355328:=by omega
       have y4 : T.length + 1 ≤ maxLen:=by simp only [maxLen]; omega
       have fT : firstRows T.length (T.map pC) = T.map pC:=first_all (by simp)
       generalize T ++ [(e1,e2)] = T2 at *
       have hT2 : T2.length ≤ k + 1:=by omega
       repeat' (first | intro (hb : _ = _) | refine ZV ?_ | refine ZB tm pry_specs_ok ?_ | refine ZH ?_ ?_ | refine ZJ (by conv=>lhs; simp [q1,q2,hm,hw,gM,y1,y2,y4,fT,hrow,m1,hne,hne',capq]) ?_ | refine ZA ?_ ?_)
       exact ⟨⟨(k + 1,T2,g + 1,_),hlt,res,hT2,by simp [lk_st]⟩,by dsimp only; omega,AS.le_of rfl ⟨by simp [lk,hl2],rfl,rfl,rfl,trivial⟩ (fun _=>rfl)⟩
end
section
def Bdn (c b : Nat) (n : List Lk) : Prop := n.length ≤ c ∧ ∀ e ∈ n,e.q.length ≤ b
theorem Bdn.nts {c b : Nat} {n : List Lk} (h : Bdn c b n) (hc : c ≤ 8000) (hb : b ≤ 8000) : ∃ d : Nts,d.ls = n := ⟨⟨n,by have := h.1; omega,fun l hl => by have := h.2 l hl; unfold okK; omega⟩,rfl⟩
theorem Bdn.nt8 {c b : Nat} {n : List Lk} (h : Bdn c b n) (hc : c ≤ 8000) (hb : b ≤ 8000) : ∃ d : Nt8,d.ls = n := ⟨⟨n,by have := h.1; omega,fun l hl => by have := h.2 l hl; unfold okK; omega⟩,rfl⟩
theorem Bdn.nt4 {c b : Nat} {n : List Lk} (h : Bdn c b n) (hc : c ≤ 4000) (hb : b ≤ 8000) : ∃ d : Nt4,d.ls = n := ⟨⟨n,by have := h.1; omega,fun l hl => by have := h.2 l hl; unfold okK; omega⟩,rfl⟩
theorem Bdn.put {c b : Nat} {n : List Lk} (h : Bdn c b n) {y : Lk} (hy : y.q.length ≤ b) : Bdn (c + 1) b (putK y n) :=
 ⟨Nat.le_trans (putK_len y n) (Nat.succ_le_succ h.1),fun e he=>by
   rcases putK_mem he with rfl | he
   · exact hy
   · exact h.2 e he⟩
theorem Bdn.fnd {c b : Nat} {n : List Lk} (h : Bdn c b n) (f t : Int) : (fndK f t n).q.length ≤ b := by
 unfold fndK
 cases hf : n.find? (lkIs f t) with
 | none=>exact Nat.zero_le _
 | some l=>exact h.2 l (List.mem_of_find?_eq_some hf)
theorem Bdn.nil (c b : Nat) : Bdn c b [] := ⟨Nat.zero_le _,fun e he => by cases he⟩
theorem Bdn.mono {c b c' b' : Nat} {n : List Lk} (h : Bdn c b n) (hc : c ≤ c') (hb : b ≤ b') : Bdn c' b' n := ⟨Nat.le_trans h.1 hc,fun e he => Nat.le_trans (h.2 e he) hb⟩
theorem Bdn.snd {c b : Nat} {n : List Lk} (h : Bdn c b n) (m : Msg) : Bdn (c + 1) (b + 1) (sndN n m).1 := by
 unfold sndN
 split
 · exact Bdn.nil _ _
 · split
   · exact Bdn.nil _ _
   · dsimp only
     split
     · exact Bdn.nil _ _
     · refine (h.mono (Nat.le_refl c) (Nat.le_succ b)).put ?_
       have:=h.fnd m.fr m.to
       simp only [List.length_append,List.length_cons,List.length_nil]
       omega
theorem Bdn.dlv {c b : Nat} {n : List Lk} (h : Bdn c b n) (f t : Int) : Bdn (c + 1) b (dlvN n f t).2.1 := by
 have hf:=h.fnd f t
 unfold dlvN
 split
 · exact Bdn.nil _ _
 · dsimp only
   cases hq : (fndK f t n).q with
   | nil=>exact Bdn.nil _ _
   | cons m r =>
     rw [hq,List.length_cons] at hf
     dsimp only
     split
     · exact Bdn.nil _ _
     · exact h.put (by dsimp only; omega)
theorem Bdn.cut {c b : Nat} {n : List Lk} (h : Bdn c b n) (f t : Int) (k : Bool) : Bdn (c + 2) b (cutN n f t k).1 := by
 have h1:=h.fnd f t
 have h2:=h.fnd t f
 unfold cutN
 split
 · exact Bdn.nil _ _
 · split
   · exact Bdn.nil _ _
   · refine Bdn.put (c:=c + 1) (Bdn.put h ?_) ?_
     · exact h1
     · exact h2
theorem Bdn.fgtL {b : Nat} (k : Int) : ∀ {L out : List Lk} {c : Nat},Bdn c b out → Bdn (c + L.length) b (fgtL k out L)
 | [],out,c,h=>h
 | l :: r,out,c,h=>by
   rw [Go.Abs.Nx.fgtL]
   have:=Bdn.fgtL (b:=b) k (L:=r) (out:=if tchB k l then putK ⟨l.fr,l.to,l.cut,[]⟩ out else out) (c:=c + 1) (by
     split
     · exact h.put (Nat.zero_le _)
     · exact h.mono (Nat.le_succ _) (Nat.le_refl _))
   exact this.mono (by simp only [List.length_cons]; omega) (Nat.le_refl _)
theorem Bdn.fgt {c b : Nat} {n : List Lk} (h : Bdn c b n) (k : Int) : Bdn (c + c) b (fgtN n k) := by
 unfold fgtN
 split
 · exact h.mono (by omega) (Nat.le_refl _)
 · exact (Bdn.fgtL (L:=n) k h).mono (by have:=h.1; omega) (Nat.le_refl _)
theorem NtV.bdn {n c : Nat} {l : List Lk} (h : NtV n c l) : Bdn c n l := ⟨h.len,fun e he => (h.lk e he).2.2.1⟩
end
section
theorem TyFs.app {q : TypeId → List AV → Prop} : ∀ {l1 l2 : List TypeId} {xs : List AV},TyFs q (l1 ++ l2) xs → ∃ a b,xs = a ++ b ∧ TyFs q l1 a ∧ TyFs q l2 b
 | [],l2,xs,h=>⟨[],xs,rfl,rfl,h⟩
 | t :: r,l2,xs,h=>by
   obtain ⟨a,b,rfl,h1,h2⟩:=h
   obtain ⟨c,d,rfl,h3,h4⟩:=TyFs.app (l1:=r) h2
   exact ⟨a ++ c,d,by rw [List.append_assoc],⟨a,c,rfl,h1,h3⟩,h4⟩
theorem TyFs.flat {q q' : TypeId → List AV → Prop} {f : TypeId → List TypeId} (h : ∀ t xs,TyFs q (f t) xs → q' t xs) : ∀ (ts : List TypeId) (xs : List AV),TyFs q (ts.flatMap f) xs → TyFs q' ts xs
 | [],xs,hx=>hx
 | t :: r,xs,hx=>by
   rw [List.flatMap_cons] at hx
   obtain ⟨a,b,rfl,h1,h2⟩:=TyFs.app hx
   exact ⟨a,b,rfl,h _ _ h1,TyFs.flat h r b h2⟩
theorem TyFs.single {q : TypeId → List AV → Prop} {t : TypeId} {xs : List AV} (h : TyFs q [t] xs) : q t xs := by
 obtain ⟨a,b,rfl,h1,h2⟩:=h
 have h2 : b = []:=h2
 subst h2
 rwa [List.append_nil]
theorem TyR.ofLeafs {P : Program} {m : Nat} : ∀ (n : Nat) (t : TypeId) (xs : List AV),TyFs (TyR P m) (leafsN P n t) xs → TyR P (n + m) t xs
 | 0,t,xs,h=>by
   rw [Nat.zero_add]
   exact TyFs.single h
 | n + 1,t,xs,h=>by
   rw [show n + 1 + m = (n + m) + 1 by omega]
   rw [leafsN] at h
   split at h
   · rename_i fs hu
     rw [TyR_struct hu]
     exact TyFs.flat (fun t xs h=>TyR.ofLeafs n t xs h) _ _ h
   · rename_i k e hu
     rw [TyR_array hu]
     exact TyFs.flat (fun t xs h=>TyR.ofLeafs n t xs h) _ _ h
   · exact TyR.monoN (by omega) (TyFs.single h)
theorem TyFs.one {q : TypeId → List AV → Prop} {t : TypeId} {r : List TypeId} {x : AV} {b : List AV} (h1 : q t [x]) (h2 : TyFs q r b) : TyFs q (t :: r) (x :: b) := ⟨[x],b,rfl,h1,h2⟩
theorem tyInt {P : Program} {n : Nat} {t : TypeId} {k : IntKind} {m : Int} (h : P.underlying t = some (.int k)) (w : (Lit.int k m).wf = true) : TyR P (n + 1) t [.int k m] := by
 rw [TyR_int h]
 exact ⟨m,rfl,w⟩
theorem tySl {P : Program} {n : Nat} {t : TypeId} {sz : Nat} {rows : List (List AV)} (e : TypeId) (h : P.underlying t = some (.slice e)) (hc : P.cellsOf e = sz) (hl : rows.length ≤ 10000) (hr : RowsTy P n e rows) : TyR P (n + 1) t [.list sz rows] := by
 rw [TyR_slice h,hc]
 exact ⟨rows,rfl,by simp only [maxLen]; omega,hr⟩
structure Ox where
 id : Int
 k : Int
 n : Int
 w : List (List AV)
 b : List (List AV)
 p6 : Int
 i7 : Int
 p8 : Int
 p9 : Int
 tl : List (List AV)
 b0 : List (List AV)
 b1 : List (List AV)
 c0 : Int
 c1 : Int
 s : Int
 nm : List (List AV)
def Ox.cells (o : Ox) : List AV := [.int .u64 o.id, .int .i64 o.k, .int .i64 o.n, .int .i64 0, .int .u64 0, .list 1 [], .list 4 [], .list 1 [], .int .i64 0, .int .i64 0, .int .i64 0, .int .i64 0, .int .i64 0, .int .i64 0, .int .i64 0, .int .i64 0, .int .i64 0, .int .i64 0, .list 2 [], .list 4 [], .int .i64 0, .int .i64 0, .int .i64 0, .list 1 o.w, .list 1 o.b, .int .i64 o.p6, .int .u64 o.i7, .int .i64 o.p8, .int .i64 o.p9, .list 1 o.tl, .list 1 o.b0, .list 1 o.b1, .int .i64 o.c0, .int .i64 o.c1, .int .i64 o.s, .list 3 o.nm]
def RwOK (t : TypeId) (l : List (List AV)) : Prop := l.length ≤ 100 ∧ RowsTy Tryz.prog 3 t l ∧ bdRows 10000 l = true
structure Ox.OK (o : Ox) : Prop where
 id : (Lit.int .u64 o.id).wf = true
 k : (Lit.int .i64 o.k).wf = true
 n : (Lit.int .i64 o.n).wf = true
 w : RwOK 2 o.w
 b : RwOK 5 o.b
 p6 : (Lit.int .i64 o.p6).wf = true
 i7 : (Lit.int .u64 o.i7).wf = true
 p8 : (Lit.int .i64 o.p8).wf = true
 p9 : (Lit.int .i64 o.p9).wf = true
 tl : RwOK 26 o.tl
 b0 : RwOK 5 o.b0
 b1 : RwOK 5 o.b1
 c0 : (Lit.int .i64 o.c0).wf = true
 c1 : (Lit.int .i64 o.c1).wf = true
 s : (Lit.int .i64 o.s).wf = true
 nm : RwOK 72 o.nm
theorem rwOK_nil (t : TypeId) : RwOK t [] := ⟨by simp,by simp [RowsTy],rfl⟩
theorem obLeafs4 : leafsN Tryz.prog 4 44 = leafs Tryz.prog 44 := by kernel_rfl
theorem Ox.OK.ty {o : Ox} (h : o.OK) : TyR Tryz.prog 8 44 o.cells := by
 have w0 : (Lit.int .i64 0).wf = true:=by decide
 have w1 : (Lit.int .u64 0).wf = true:=by decide
 apply TyR.ofLeafs (m:=4) 4
 rw [obLeafs4,lf44]
 unfold Ox.cells
 refine TyFs.one (tyInt (by kernel_rfl) h.id) ?_
 refine TyFs.one (tyInt (by kernel_rfl) h.k) ?_
 refine TyFs.one (tyInt (by kernel_rfl) h.n) ?_
 refine TyFs.one (tyInt (by kernel_rfl) w0) ?_
 refine TyFs.one (tyInt (by kernel_rfl) w1) ?_
 refine TyFs.one (tySl 26 (by kernel_rfl) (by kernel_rfl) (by simp) (by simp [RowsTy])) ?_
 refine TyFs.one (tySl 144 (by kernel_rfl) (by kernel_rfl) (by simp) (by simp [RowsTy])) ?_
 refine TyFs.one (tySl 9 (by kernel_rfl) (by kernel_rfl) (by simp) (by simp [RowsTy])) ?_
 iterate 10 (refine TyFs.one (tyInt (by kernel_rfl) w0) ?_)
 refine TyFs.one (tySl 128 (by kernel_rfl) (by kernel_rfl) (by simp) (by simp [RowsTy])) ?_
 refine TyFs.one (tySl 131 (by kernel_rfl) (by kernel_rfl) (by simp) (by simp [RowsTy])) ?_
 iterate 3 (refine TyFs.one (tyInt (by kernel_rfl) w0) ?_)
 refine TyFs.one (tySl 2 (by kernel_rfl) (by kernel_rfl) (by have:=h.w.1; omega) h.w.2.1) ?_
 refine TyFs.one (tySl 5 (by kernel_rfl) (by kernel_rfl) (by have:=h.b.1; omega) h.b.2.1) ?_
 refine TyFs.one (tyInt (by kernel_rfl) h.p6) ?_
 refine TyFs.one (tyInt (by kernel_rfl) h.i7) ?_
 refine TyFs.one (tyInt (by kernel_rfl) h.p8) ?_
 refine TyFs.one (tyInt (by kernel_rfl) h.p9) ?_
 refine TyFs.one (tySl 26 (by kernel_rfl) (by kernel_rfl) (by have:=h.tl.1; omega) h.tl.2.1) ?_
 refine TyFs.one (tySl 5 (by kernel_rfl) (by kernel_rfl) (by have:=h.b0.1; omega) h.b0.2.1) ?_
 refine TyFs.one (tySl 5 (by kernel_rfl) (by kernel_rfl) (by have:=h.b1.1; omega) h.b1.2.1) ?_
 refine TyFs.one (tyInt (by kernel_rfl) h.c0) ?_
 refine TyFs.one (tyInt (by kernel_rfl) h.c1) ?_
 refine TyFs.one (tyInt (by kernel_rfl) h.s) ?_
 refine TyFs.one (tySl 72 (by kernel_rfl) (by kernel_rfl) (by have:=h.nm.1; omega) h.nm.2.1) ?_
 rfl
theorem Ox.OK.bd {o : Ox} (h : o.OK) : bdL 10000 o.cells = true := by
 have e : ∀ {t : TypeId} {n : Nat} {l : List (List AV)},RwOK t l → bdV 10000 (.list n l) = true:=fun ⟨h1,_,h2⟩=>by
   simp only [bdV,h2,Bool.and_true,decide_eq_true_eq]
   omega
 simp only [Ox.cells,bdL,e h.w,e h.b,e h.tl,e h.b0,e h.b1,e h.nm]
 simp [bdV,bdRows]
def Ox.ob (o : Ox) (h : o.OK) : Ob := ⟨o.cells,h.ty,h.bd⟩
end
section
attribute [local simp] instA slice3A slice3C
attribute [-simp] mkv
attribute [local simp] mkv_hd hdA_cons hdA_ob hdA_ob'
def oxz (id k n : Int) : Ox := ⟨id,k,n,[],[],0,0,0,0,[],[],[],0,0,0,[]⟩
theorem oxz_nrm (id k n p6 i7 p8 p9 c0 c1 s : Int) : nrmR Tryz.prog [44] (.agg [.int .u64 id, .int .i64 k, .int .i64 n, .int .i64 0, .int .u64 0, .nils, .nils, .nils, .int .i64 0, .int .i64 0, .int .i64 0, .int .i64 0, .int .i64 0, .int .i64 0, .int .i64 0, .int .i64 0, .int .i64 0, .int .i64 0, .nils, .nils, .int .i64 0, .int .i64 0, .int .i64 0, .nils, .nils, .int .i64 p6, .int .u64 i7, .int .i64 p8, .int .i64 p9, .nils, .nils, .nils, .int .i64 c0, .int .i64 c1, .int .i64 s, .nils]) = .agg (Ox.cells ⟨id,k,n,[],[],p6,i7,p8,p9,[],[],[],c0,c1,s,[]⟩) := by kernel_rfl
theorem oxz_id (id k n p6 i7 p8 p9 c0 c1 s : Int) : nrmR Tryz.prog [44] (.agg (Ox.cells ⟨id,k,n,[],[],p6,i7,p8,p9,[],[],[],c0,c1,s,[]⟩)) = .agg (Ox.cells ⟨id,k,n,[],[],p6,i7,p8,p9,[],[],[],c0,c1,s,[]⟩) := by kernel_rfl
noncomputable def ocS (f : Int → Ox) : SpecFn := mkS (fun id : Int => [.int .u64 id]) fun id => (.agg (f id).cells,[])
theorem ocS_eq (f : Int → Ox) (id : Int) : ocS f [.int .u64 id] [] = some (.agg (f id).cells,[]) :=
 mkS_eq (enc:=fun id : Int=>[AV.int .u64 id]) (fun x y h=>by
   simp only [List.cons.injEq,AV.int.injEq,true_and,and_true] at h
   rw [h]) id
def o08 (id : Int) : Ox := ⟨id,3,0,[],[],0,0,0,0,[],[],[],0,0,0,[]⟩
theorem n08_ok : FnC Tryz.prog 74 (ocS o08) := by
 refine FnC.walkN 74 (fn:=Tryz.f74) [44] Tryz.func74 rfl (by kernel_rfl) (fun id=>?_) (fun id=>⟨_,oxz_id id 3 0 0 0 0 0 0 0 0⟩)
 change W _ (RetNf _ _ _ (.agg (o08 id).cells) []) _ _ ⟨5,[(0, .int .u64 id)],[]⟩
 repeat' (first | intro (hb : _ = _) | refine ZV ?_ | refine ZB tm no_specs ?_ | refine ZH ?_ ?_ | refine ZJ (by conv=>lhs; simp) ?_ | refine ZA ?_ ?_)
 refine Ye ?_
 exact oxz_nrm id 3 0 0 0 0 0 0 0 0
def o11 (id : Int) : Ox := ⟨id,5,0,[],[],0,0,1,1,[],[],[],0,0,0,[]⟩
theorem n11_ok : FnC Tryz.prog 76 (ocS o11) := by
 refine FnC.walkN 76 (fn:=Tryz.f76) [44] Tryz.func76 rfl (by kernel_rfl) (fun id=>?_) (fun id=>⟨_,oxz_id id 5 0 0 0 1 1 0 0 0⟩)
 change W _ (RetNf _ _ _ (.agg (o11 id).cells) []) _ _ ⟨5,[(0, .int .u64 id)],[]⟩
 repeat' (first | intro (hb : _ = _) | refine ZV ?_ | refine ZB tm no_specs ?_ | refine ZH ?_ ?_ | refine ZJ (by conv=>lhs; simp) ?_ | refine ZA ?_ ?_)
 refine Ye ?_
 exact oxz_nrm id 5 0 0 0 1 1 0 0 0
def o12 (id : Int) : Ox := ⟨id,7,0,[],[],0,0,0,0,[],[],[],1,1,0,[]⟩
theorem n12_ok : FnC Tryz.prog 79 (ocS o12) := by
 refine FnC.walkN 79 (fn:=Tryz.f79) [44] Tryz.func79 rfl (by kernel_rfl) (fun id=>?_) (fun id=>⟨_,oxz_id id 7 0 0 0 0 0 1 1 0⟩)
 change W _ (RetNf _ _ _ (.agg (o12 id).cells) []) _ _ ⟨6,[(0, .int .u64 id)],[]⟩
 repeat' (first | intro (hb : _ = _) | refine ZV ?_ | refine ZB tm no_specs ?_ | refine ZH ?_ ?_ | refine ZJ (by conv=>lhs; simp) ?_ | refine ZA ?_ ?_)
 refine Ye ?_
 exact oxz_nrm id 7 0 0 0 0 0 1 1 0
def o17 (id : Int) : Ox := ⟨id,9,0,[],[],0,0,0,0,[],[],[],0,0,0,[]⟩
theorem n17_ok : FnC Tryz.prog 53 (ocS o17) := by
 refine FnC.walkN 53 (fn:=Tryz.f53) [44] Tryz.func53 rfl (by kernel_rfl) (fun id=>?_) (fun id=>⟨_,oxz_id id 9 0 0 0 0 0 0 0 0⟩)
 change W _ (RetNf _ _ _ (.agg (o17 id).cells) []) _ _ ⟨5,[(0, .int .u64 id)],[]⟩
 repeat' (first | intro (hb : _ = _) | refine ZV ?_ | refine ZB tm no_specs ?_ | refine ZH ?_ ?_ | refine ZJ (by conv=>lhs; simp) ?_ | refine ZA ?_ ?_)
 refine Ye ?_
 exact oxz_nrm id 9 0 0 0 0 0 0 0 0
noncomputable def n09S : SpecFn := mkS (fun _ : Unit => []) fun _ => (.agg (oxz 1 10 0).cells,[])
theorem n09S_eq : n09S [] [] = some (.agg (oxz 1 10 0).cells,[]) := mkS_eq (enc := fun _ : Unit => ([] : List AV)) (fun _ _ _ => rfl) ()
theorem n09_ok : FnC Tryz.prog 81 n09S := by
 refine FnC.walkN 81 (fn:=Tryz.f81) [44] Tryz.func81 rfl (by kernel_rfl) (fun id=>?_) (fun id=>⟨_,oxz_id 1 10 0 0 0 0 0 0 0 0⟩)
 change W _ (RetNf _ _ _ (.agg (oxz 1 10 0).cells) []) _ _ ⟨2,[],[]⟩
 repeat' (first | intro (hb : _ = _) | refine ZV ?_ | refine ZB tm no_specs ?_ | refine ZH ?_ ?_ | refine ZJ (by conv=>lhs; simp) ?_ | refine ZA ?_ ?_)
 refine Ye ?_
 exact oxz_nrm 1 10 0 0 0 0 0 0 0 0
def o08o (id i : Int) : Ox := ⟨id,4,1,[],[],0,i,0,0,[],[],[],0,0,0,[]⟩
noncomputable def opnS : SpecFn := mkS (fun d : Int × Int => [.int .u64 d.1, .int .u64 d.2]) fun d => (.agg (o08o d.1 d.2).cells,[])
theorem opnS_eq (id i : Int) : opnS [.int .u64 id, .int .u64 i] [] = some (.agg (o08o id i).cells,[]) :=
 mkS_eq (enc:=fun d : Int × Int=>[AV.int .u64 d.1, .int .u64 d.2]) (res:=fun d=>(.agg (o08o d.1 d.2).cells,[])) (fun x y h=>by
   simp only [List.cons.injEq,AV.int.injEq,true_and,and_true] at h
   rw [h.1,h.2]) (id,i)
theorem opn_ok : FnC Tryz.prog 47 opnS := by
 refine FnC.walkN 47 (fn:=Tryz.f47) [44] Tryz.func47 rfl (by kernel_rfl) (fun d=>?_) (fun d=>⟨_,oxz_id d.1 4 1 0 d.2 0 0 0 0 0⟩)
 obtain ⟨id,i⟩:=d
 change W _ (RetNf _ _ _ (.agg (o08o id i).cells) []) _ _ ⟨8,[(0, .int .u64 id),(1, .int .u64 i)],[]⟩
 repeat' (first | intro (hb : _ = _) | refine ZV ?_ | refine ZB tm no_specs ?_ | refine ZH ?_ ?_ | refine ZJ (by conv=>lhs; simp) ?_ | refine ZA ?_ ?_)
 refine Ye ?_
 exact oxz_nrm id 4 1 0 i 0 0 0 0 0
attribute [local simp] instA slice3A slice3C makeSliceA
theorem nf8 : (Tryz.prog.info? 2).map (fun i => (i.size,i.bytes)) = some (1,8) := by kernel_rfl
theorem nf8_ex : ∃ i,Tryz.prog.info? 2 = some i ∧ i.size = 1 ∧ i.bytes = 8 := by
 have h:=nf8
 cases hi : Tryz.prog.info? 2 with
 | none=>rw [hi] at h; cases h
 | some i =>
   rw [hi] at h
   simp only [Option.map_some,Option.some.injEq,Prod.mk.injEq] at h
   exact ⟨i,rfl,h.1,h.2⟩
end
section
attribute [local simp] instA slice3A slice3C
attribute [-simp] mkv
attribute [local simp] mkv_hd hdA_cons hdA_ob hdA_ob'
theorem encX1_inj : ∀ x y : List UInt8,encD1 x = encD1 y → x = y := fun x y h => by
 simp only [encD1,Prod.mk.injEq,List.cons.injEq,true_and,and_true] at h
 exact diceB_inj h
def WdP (_ : List UInt8) (r : AV × List ABlk) : Prop := ∃ (v : Int) (ds' : List UInt8),(Lit.int .i64 v).wf = true ∧ r = (.int .i64 v,[diceB ds'])
noncomputable def dc_specs : NL Spec := [(8,⟨3,diceS⟩)]
theorem dc_specs_ok : ∀ p ∈ dc_specs,FnC Tryz.prog p.1 p.2.fn := by
 simp only [dc_specs,List.mem_cons,List.not_mem_nil,or_false]
 rintro p rfl
 exact dice_ok
attribute [local simp] dc_specs
theorem m12 : 12 ≤ maxLen := by simp [maxLen]
theorem wd_ex : ∃ S,FnC Tryz.prog 54 S ∧ ∀ ds, ∃ r,S (encD1 ds).1 (encD1 ds).2 = some r ∧ WdP ds r := by
 refine FnC.existsB 54 (fn:=Tryz.f54) Tryz.func54 rfl (by kernel_rfl) (fun x b hb=>by simp [encD1] at hb; rw [hb]; rfl) encX1_inj (fun ds=>⟨_,0,ds,by decide,rfl⟩) fun ds=>?_
 change W _ _ _ _ ⟨8,[(0, .ptr 0 0 0 0)],[(0,diceB ds)]⟩
 have c1:=diceS_eq ds 12
 have b1:=dn_nonneg ds 12
 have b2:=dn_lt ds (n:=12) (by omega)
 generalize dl ds 12 = e at *
 generalize dn ds 12 = d at *
 simp only [diceB] at c1 ⊢
 have hd : d = 0 ∨ d = 1 ∨ d = 2 ∨ d = 3 ∨ d = 4 ∨ d = 5 ∨ d = 6 ∨ d = 7 ∨ d = 8 ∨ d = 9 ∨ d = 10 ∨ d = 11:=by omega
 rcases hd with rfl | rfl | rfl | rfl | rfl | rfl | rfl | rfl | rfl | rfl | rfl | rfl
 · repeat' (first | intro (hb : _ = _) | refine ZV ?_ | refine ZB tm dc_specs_ok ?_ | refine ZH ?_ ?_ | refine ZJ (by conv=>lhs; simp [c1,m12]) ?_ | refine ZA ?_ ?_)
   refine ⟨(.int .i64 0,[diceB e]),⟨0,e,by decide,rfl⟩, ?_⟩
   exact RetB.raw [0] rfl (by conv=>lhs; simp) (by decide) (by rintro j hj; have hj : j < 1:=hj; rcases (show j = 0 by omega) with rfl; exact ⟨rfl,by simp⟩) (by simp [diceB]) (by simp)
 · repeat' (first | intro (hb : _ = _) | refine ZV ?_ | refine ZB tm dc_specs_ok ?_ | refine ZH ?_ ?_ | refine ZJ (by conv=>lhs; simp [c1,m12]) ?_ | refine ZA ?_ ?_)
   refine ⟨(.int .i64 1,[diceB e]),⟨1,e,by decide,rfl⟩, ?_⟩
   exact RetB.raw [0] rfl (by conv=>lhs; simp) (by decide) (by rintro j hj; have hj : j < 1:=hj; rcases (show j = 0 by omega) with rfl; exact ⟨rfl,by simp⟩) (by simp [diceB]) (by simp)
 · repeat' (first | intro (hb : _ = _) | refine ZV ?_ | refine ZB tm dc_specs_ok ?_ | refine ZH ?_ ?_ | refine ZJ (by conv=>lhs; simp [c1,m12]) ?_ | refine ZA ?_ ?_)
   refine ⟨(.int .i64 2,[diceB e]),⟨2,e,by decide,rfl⟩, ?_⟩
   exact RetB.raw [0] rfl (by conv=>lhs; simp) (by decide) (by rintro j hj; have hj : j < 1:=hj; rcases (show j = 0 by omega) with rfl; exact ⟨rfl,by simp⟩) (by simp [diceB]) (by simp)
 · repeat' (first | intro (hb : _ = _) | refine ZV ?_ | refine ZB tm dc_specs_ok ?_ | refine ZH ?_ ?_ | refine ZJ (by conv=>lhs; simp [c1,m12]) ?_ | refine ZA ?_ ?_)
   refine ⟨(.int .i64 3,[diceB e]),⟨3,e,by decide,rfl⟩, ?_⟩
   exact RetB.raw [0] rfl (by conv=>lhs; simp) (by decide) (by rintro j hj; have hj : j < 1:=hj; rcases (show j = 0 by omega) with rfl; exact ⟨rfl,by simp⟩) (by simp [diceB]) (by simp)
 · repeat' (first | intro (hb : _ = _) | refine ZV ?_ | refine ZB tm dc_specs_ok ?_ | refine ZH ?_ ?_ | refine ZJ (by conv=>lhs; simp [c1,m12]) ?_ | refine ZA ?_ ?_)
   refine ⟨(.int .i64 1,[diceB e]),⟨1,e,by decide,rfl⟩, ?_⟩
   exact RetB.raw [0] rfl (by conv=>lhs; simp) (by decide) (by rintro j hj; have hj : j < 1:=hj; rcases (show j = 0 by omega) with rfl; exact ⟨rfl,by simp⟩) (by simp [diceB]) (by simp)
 · repeat' (first | intro (hb : _ = _) | refine ZV ?_ | refine ZB tm dc_specs_ok ?_ | refine ZH ?_ ?_ | refine ZJ (by conv=>lhs; simp [c1,m12]) ?_ | refine ZA ?_ ?_)
   refine ⟨(.int .i64 0,[diceB e]),⟨0,e,by decide,rfl⟩, ?_⟩
   exact RetB.raw [0] rfl (by conv=>lhs; simp) (by decide) (by rintro j hj; have hj : j < 1:=hj; rcases (show j = 0 by omega) with rfl; exact ⟨rfl,by simp⟩) (by simp [diceB]) (by simp)
 · repeat' (first | intro (hb : _ = _) | refine ZV ?_ | refine ZB tm dc_specs_ok ?_ | refine ZH ?_ ?_ | refine ZJ (by conv=>lhs; simp [c1,m12]) ?_ | refine ZA ?_ ?_)
   refine ⟨(.int .i64 5,[diceB e]),⟨5,e,by decide,rfl⟩, ?_⟩
   exact RetB.raw [0] rfl (by conv=>lhs; simp) (by decide) (by rintro j hj; have hj : j < 1:=hj; rcases (show j = 0 by omega) with rfl; exact ⟨rfl,by simp⟩) (by simp [diceB]) (by simp)
 · repeat' (first | intro (hb : _ = _) | refine ZV ?_ | refine ZB tm dc_specs_ok ?_ | refine ZH ?_ ?_ | refine ZJ (by conv=>lhs; simp [c1,m12]) ?_ | refine ZA ?_ ?_)
   refine ⟨(.int .i64 16,[diceB e]),⟨16,e,by decide,rfl⟩, ?_⟩
   exact RetB.raw [0] rfl (by conv=>lhs; simp) (by decide) (by rintro j hj; have hj : j < 1:=hj; rcases (show j = 0 by omega) with rfl; exact ⟨rfl,by simp⟩) (by simp [diceB]) (by simp)
 · repeat' (first | intro (hb : _ = _) | refine ZV ?_ | refine ZB tm dc_specs_ok ?_ | refine ZH ?_ ?_ | refine ZJ (by conv=>lhs; simp [c1,m12]) ?_ | refine ZA ?_ ?_)
   refine ⟨(.int .i64 (-1),[diceB e]),⟨(-1),e,by decide,rfl⟩, ?_⟩
   exact RetB.raw [0] rfl (by conv=>lhs; simp) (by decide) (by rintro j hj; have hj : j < 1:=hj; rcases (show j = 0 by omega) with rfl; exact ⟨rfl,by simp⟩) (by simp [diceB]) (by simp)
 · repeat' (first | intro (hb : _ = _) | refine ZV ?_ | refine ZB tm dc_specs_ok ?_ | refine ZH ?_ ?_ | refine ZJ (by conv=>lhs; simp [c1,m12]) ?_ | refine ZA ?_ ?_)
   refine ⟨(.int .i64 200,[diceB e]),⟨200,e,by decide,rfl⟩, ?_⟩
   exact RetB.raw [0] rfl (by conv=>lhs; simp) (by decide) (by rintro j hj; have hj : j < 1:=hj; rcases (show j = 0 by omega) with rfl; exact ⟨rfl,by simp⟩) (by simp [diceB]) (by simp)
 · repeat' (first | intro (hb : _ = _) | refine ZV ?_ | refine ZB tm dc_specs_ok ?_ | refine ZH ?_ ?_ | refine ZJ (by conv=>lhs; simp [c1,m12]) ?_ | refine ZA ?_ ?_)
   refine ⟨(.int .i64 14,[diceB e]),⟨14,e,by decide,rfl⟩, ?_⟩
   exact RetB.raw [0] rfl (by conv=>lhs; simp) (by decide) (by rintro j hj; have hj : j < 1:=hj; rcases (show j = 0 by omega) with rfl; exact ⟨rfl,by simp⟩) (by simp [diceB]) (by simp)
 · repeat' (first | intro (hb : _ = _) | refine ZV ?_ | refine ZB tm dc_specs_ok ?_ | refine ZH ?_ ?_ | refine ZJ (by conv=>lhs; simp [c1,m12]) ?_ | refine ZA ?_ ?_)
   refine ⟨(.int .i64 9,[diceB e]),⟨9,e,by decide,rfl⟩, ?_⟩
   exact RetB.raw [0] rfl (by conv=>lhs; simp) (by decide) (by rintro j hj; have hj : j < 1:=hj; rcases (show j = 0 by omega) with rfl; exact ⟨rfl,by simp⟩) (by simp [diceB]) (by simp)
end
section
attribute [local simp] instA slice3A slice3C
attribute [-simp] mkv
attribute [local simp] mkv_hd hdA_cons hdA_ob hdA_ob' dc_specs
abbrev DsN := {x : List UInt8 × Int // 0 ≤ x.2 ∧ x.2 ≤ 64}
def encDN (x : DsN) : List AV × List ABlk := encD x.1
theorem encDN_inj : ∀ x y : DsN,encDN x = encDN y → x = y := fun x y h => by
 obtain ⟨⟨a,b⟩,c⟩:=x
 obtain ⟨⟨a',b'⟩,c'⟩:=y
 simp only [encDN,encD,Prod.mk.injEq,List.cons.injEq,AV.int.injEq,true_and,and_true] at h
 obtain ⟨rfl,h2⟩:=h
 cases diceB_inj h2
 rfl
def BtP (_ : DsN) (r : AV × List ABlk) : Prop := ∃ bs ds' : List UInt8,bs.length ≤ 64 ∧ r = (.list 1 (bs.map byte),[diceB ds'])
theorem bt_ex : ∃ S,FnC Tryz.prog 75 S ∧ ∀ x, ∃ r,S (encDN x).1 (encDN x).2 = some r ∧ BtP x r := by
 refine FnC.existsB 75 (fn:=Tryz.f75) Tryz.func75 rfl (by kernel_rfl) (fun x b hb=>by simp [encDN,encD] at hb; rw [hb]; rfl) encDN_inj (fun ds=>⟨_,[],[],by simp,rfl⟩) fun x=>?_
 obtain ⟨⟨ds,n⟩,n0,n64⟩:=x
 dsimp only at n0 n64
 change W _ _ _ _ ⟨22,[(0, .ptr 0 0 0 0),(1, .int .i64 n)],[(0,diceB ds)]⟩
 have c1:=diceS_eq ds (n + 1)
 have b1:=dn_nonneg ds (n + 1)
 have b2:=dn_lt ds (n:=n + 1) (by omega)
 have hw : IntKind.i64.wrap (n + 1) = n + 1:=w64 (by omega) (by omega)
 generalize dl ds (n + 1) = e at *
 obtain ⟨kk,hkk⟩ : ∃ k : Nat,dn ds (n + 1) = k:=⟨_,(Int.toNat_of_nonneg b1).symm⟩
 rw [hkk] at c1 b2
 simp only [diceB] at c1 ⊢
 repeat' (first | intro (hb : _ = _) | refine ZV ?_ | refine ZB (id:=0) tm dc_specs_ok ?_ | refine ZB (id:=1) tm dc_specs_ok ?_ | refine ZB (id:=2) tm dc_specs_ok ?_ | refine ZH ?_ ?_ | refine ZJ (by conv=>lhs; simp [c1,hw]) ?_ | refine ZA ?_ ?_)
 refine W.phantom (t:=5) 20000 5 1 true (by rfl) (by rfl) (by decide) ?_
 refine W.loop rfl (ι:={ q : Nat × List UInt8 × Nat × List UInt8 × NL ABlk // q.2.1.length + q.1 ≤ 64 ∧ lk q.2.2.2.2 0 = some (diceB q.2.2.2.1) ∧ lk q.2.2.2.2 20000 = some { gen:=q.2.2.1,kind:=2,elem:=5,size:=1,inl:=true,rows:=q.2.1.map byte } })
   (fun q=>⟨22,[(0, .ptr 0 0 0 0),(5, .sl 20000 q.1.2.2.1 0 q.1.2.1.length),(6, .int .i64 (q.1.1 : Nat))],q.1.2.2.2.2⟩) (fun q=>q.1.1)
   ⟨(kk,[],0,e,_),by simp; omega,by simp [lk,lk_st,diceB],by simp [lk,lk_st]⟩ (AS.le_of rfl ⟨rfl,rfl,rfl,trivial⟩ (fun _=>rfl)) ?_
 clear c1 hkk b1 b2
 rintro ⟨⟨k,T,g,f,H⟩,hk,h0,gM⟩
 dsimp only at hk h0 gM ⊢
 simp only [diceB] at h0
 by_cases hk0 : k = 0
 · subst hk0
   have tT : List.take T.length (T.map byte) = T.map byte:=List.take_of_length_le (by simp)
   repeat' (first | intro (hb : _ = _) | refine ZV ?_ | refine ZB tm dc_specs_ok ?_ | refine ZH ?_ ?_ | refine ZJ (by conv=>lhs; simp [h0,gM]) ?_ | refine ZA ?_ ?_)
   refine ⟨(.list 1 (T.map byte),[diceB f]),⟨T,f,by omega,rfl⟩, ?_⟩
   refine RetB.mk true [0] rfl (by conv=>lhs; simp) (by conv=>lhs; simp [frqT,frqV,frqVs,frqL,frq1,frz1,AP.run,gM,tT]) (by decide) (by rintro j hj; have hj : j < 1:=hj; rcases (show j = 0 by omega) with rfl; exact ⟨rfl,by simp [lk_st,h0]⟩) (by simp [lk_st,h0,diceB]) (by simp)
 · have q1 : (0 : Int) < (k : Int):=by omega
   have q0 : 0 < k:=by omega
   have hw1 : IntKind.i64.wrap ((k : Int) - 1) = ((k - 1 : Nat) : Int):=by rw [w64 (by omega) (by omega)]; omega
   have c2:=diceS_eq f 256
   have r0:=dn_nonneg f 256
   have r1:=dn_lt f (n:=256) (by omega)
   generalize dl f 256 = f2 at *
   generalize dn f 256 = d at *
   obtain ⟨b,rfl⟩ : ∃ b : UInt8,d = (b.toNat : Int):=⟨UInt8.ofNat d.toNat,by simp; omega⟩
   have hu : IntKind.u8.wrap (b.toNat : Int) = (b.toNat : Int):=by
     simp only [IntKind.wrap,IntKind.signed,IntKind.bits]
     simp
     omega
   simp only [diceB] at c2
   have hrow : T.map byte ++ [[.int .u8 (b.toNat : Int)]] = (T ++ [b]).map byte:=by simp [byte]
   have hl2 : (T ++ [b]).length = T.length + 1:=by simp
   have y1 : T.length ≤ maxLen:=by simp only [maxLen]; omega
   have y2 : T.length + 1 ≤ 140737488355328:=by omega
   have y3 : T.length + 1 ≤ 281474976710656:=by omega
   have y4 : T.length + 1 ≤ maxLen:=by simp only [maxLen]; omega
   have fT : firstRows T.length (T.map byte) = T.map byte:=first_all (by simp)
   have m1 : (1 : Nat) ≤ maxLen:=by decide
   generalize T ++ [b] = T2 at *
   repeat' (first | intro (hb : _ = _) | refine ZV ?_ | refine ZB tm dc_specs_ok ?_ | refine ZH ?_ ?_ | refine ZJ (by conv=>lhs; simp [q1,q0,h0,gM,c2,hu,hw1,y1,y2,y3,y4,fT,hrow,m1]) ?_ | refine ZA ?_ ?_)
   exact ⟨⟨(k - 1,T2,g + 1,f2,_),by dsimp only; omega,by simp [lk_st,diceB],by simp [lk_st]⟩,by dsimp only; omega,AS.le_of rfl ⟨rfl,by simp [lk,hl2],rfl,trivial⟩ (fun _=>rfl)⟩
end
section
attribute [local simp] instA slice3A slice3C makeSliceA
attribute [-simp] mkv
attribute [local simp] mkv_hd hdA_cons hdA_ob hdA_ob' dc_specs
theorem byte_row (b : UInt8) : TyR Tryz.prog 3 5 (byte b) := tyInt (by kernel_rfl) (by
 have:=b.toNat_lt
 simp only [Lit.wf,IntKind.min,IntKind.max,IntKind.signed,IntKind.bits]
 simp
 omega)
theorem bdRows_byte (l : List UInt8) : bdRows 10000 (l.map byte) = true := by
 induction l with
 | nil=>rfl
 | cons b r ih=>simp [bdRows,bdL,bdV,byte,ih]
theorem rwOK_bytes {l : List UInt8} (h : l.length ≤ 64) : RwOK 5 (l.map byte) := ⟨by simp; omega,fun row hr => by
 obtain ⟨b,_,rfl⟩:=List.mem_map.1 hr
 exact byte_row b,bdRows_byte l⟩
abbrev DsI := {x : List UInt8 × Int // (Lit.int .u64 x.2).wf = true}
def encDI (x : DsI) : List AV × List ABlk := ([.ptr 0 0 0 0, .int .u64 x.1.2],[diceB x.1.1])
theorem encDI_inj : ∀ x y : DsI,encDI x = encDI y → x = y := fun x y h => by
 obtain ⟨⟨a,b⟩,c⟩:=x
 obtain ⟨⟨a',b'⟩,c'⟩:=y
 simp only [encDI,Prod.mk.injEq,List.cons.injEq,AV.int.injEq,true_and,and_true] at h
 obtain ⟨rfl,h2⟩:=h
 cases diceB_inj h2
 rfl
def OxP {α : Type} (_ : α) (r : AV × List ABlk) : Prop := ∃ (o : Ox) (ds' : List UInt8),o.OK ∧ r = (.agg o.cells,[diceB ds'])
theorem wfk {k : Int} (h : -100 ≤ k) (h2 : k ≤ 10000) : (Lit.int .i64 k).wf = true := by
 simp only [Lit.wf,IntKind.min,IntKind.max,IntKind.signed,IntKind.bits]
 simp
 omega
theorem mkOK {id k n p6 i7 p8 p9 c0 c1 s : Int} {w b tl b0 b1 nm : List (List AV)} (hid : (Lit.int .u64 id).wf = true) (hk : (Lit.int .i64 k).wf = true := by decide) (hn : (Lit.int .i64 n).wf = true := by decide) (hw : RwOK 2 w := by exact rwOK_nil _) (hb : RwOK 5 b := by exact rwOK_nil _) (hp6 : (Lit.int .i64 p6).wf = true := by decide) (hi7 : (Lit.int .u64 i7).wf = true := by decide) (hp8 : (Lit.int .i64 p8).wf = true := by decide) (hp9 : (Lit.int .i64 p9).wf = true := by decide) (htl : RwOK 26 tl := by exact rwOK_nil _) (hb0 : RwOK 5 b0 := by exact rwOK_nil _) (hb1 : RwOK 5 b1 := by exact rwOK_nil _) (hc0 : (Lit.int .i64 c0).wf = true := by decide) (hc1 : (Lit.int .i64 c1).wf = true := by decide) (hs : (Lit.int .i64 s).wf = true := by decide) (hnm : RwOK 72 nm := by exact rwOK_nil _) : Ox.OK ⟨id,k,n,w,b,p6,i7,p8,p9,tl,b0,b1,c0,c1,s,nm⟩ := ⟨hid,hk,hn,hw,hb,hp6,hi7,hp8,hp9,htl,hb0,hb1,hc0,hc1,hs,hnm⟩
theorem OxP.ne {α : Type} (x : α) : ∃ r,OxP x r := ⟨_,oxz 1 0 0,[],⟨by decide,by decide,by decide,rwOK_nil _,rwOK_nil _,by decide,by decide,by decide,by decide,rwOK_nil _,rwOK_nil _,rwOK_nil _,by decide,by decide,by decide,rwOK_nil _⟩,rfl⟩
theorem fil_ex : ∃ S,FnC Tryz.prog 46 S ∧ ∀ x, ∃ r,S (encDI x).1 (encDI x).2 = some r ∧ OxP x r := by
 obtain ⟨SB,hSB,hSBe⟩:=bt_ex
 have sp : ∀ p ∈ ([(74,⟨1,ocS o08⟩),(75,⟨3,SB⟩)] : NL Spec),FnC Tryz.prog p.1 p.2.fn:=by
   simp only [List.mem_cons,List.not_mem_nil,or_false]
   rintro p (rfl | rfl)
   · exact n08_ok
   · exact hSB
 refine FnC.existsB 46 (fn:=Tryz.f46) Tryz.func46 rfl (by kernel_rfl) (fun x b hb=>by simp [encDI] at hb; rw [hb]; rfl) encDI_inj OxP.ne fun x=>?_
 obtain ⟨⟨ds,id⟩,hid⟩:=x
 dsimp only at hid
 change W _ _ _ _ ⟨12,[(0, .ptr 0 0 0 0),(1, .int .u64 id)],[(0,diceB ds)]⟩
 have c1:=ocS_eq o08 id
 obtain ⟨_,c2,bs,e,hb,rfl⟩:=hSBe ⟨(ds,12),by simp,by simp⟩
 simp only [encDN,encD] at c2
 simp only [diceB] at c2 ⊢
 simp only [o08,Ox.cells] at c1
 repeat' (first | intro (hb : _ = _) | refine ZV ?_ | refine ZB tm sp ?_ | refine ZH ?_ ?_ | refine ZJ (by conv=>lhs; simp [c1,c2]) ?_ | refine ZA ?_ ?_)
 refine ⟨(.agg (Ox.cells ⟨id,3,0,[],bs.map byte,0,0,0,0,[],[],[],0,0,0,[]⟩),[diceB e]),⟨_,e,mkOK hid (hb:=rwOK_bytes hb),rfl⟩, ?_⟩
 exact RetB.raw [0] rfl (by conv=>lhs; simp) (by decide) (by rintro j hj; have hj : j < 1:=hj; rcases (show j = 0 by omega) with rfl; exact ⟨rfl,by simp⟩) (by simp [diceB]) (by simp [Ox.cells])
end
end Go.Abs.Nx
