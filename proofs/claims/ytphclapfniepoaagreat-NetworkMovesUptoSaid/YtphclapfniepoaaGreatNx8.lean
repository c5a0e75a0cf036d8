/- Objects that are made, of any kind. Conditions: none. -/
import Derived.Test.YtphclapfniepoaaGreatNx7
import Derived.Test.YtphclapfniepoaaGreatNx6
import Derived.Test.YtphclapfniepoaaGreatNx5
import Derived.Test.YtphclapfniepoaaGreatAb9
namespace Go.Abs.Nx
open Go Go.Proofs Go.Abs
set_option maxRecDepth 100000
set_option maxHeartbeats 4000000
set_option linter.unusedSimpArgs false
set_option linter.unusedVariables false
section
attribute [local simp] instA slice3A slice3C makeSliceA indexA
attribute [-simp] mkv
attribute [local simp] mkv_hd hdA_cons hdA_ob hdA_ob'
theorem mob_ex : ∃ S,FnC Tryz.prog 26 S ∧ ∀ ds, ∃ r,S (encD1 ds).1 (encD1 ds).2 = some r ∧ NsP ds r := by
 obtain ⟨S0,hS0,hS0e⟩:=pag_ex
 obtain ⟨S1,hS1,hS1e⟩:=fil_ex
 obtain ⟨S3,hS3,hS3e⟩:=pip_ex
 obtain ⟨S4,hS4,hS4e⟩:=por_ex
 obtain ⟨S5,hS5,hS5e⟩:=chn_ex
 obtain ⟨S7,hS7,hS7e⟩:=wd_ex
 obtain ⟨S8,hS8,hS8e⟩:=nms_ex
 have sp : ∀ p ∈ ([(25,⟨3,idS⟩),(8,⟨3,diceS⟩),(45,⟨3,S0⟩),(46,⟨3,S1⟩),(48,⟨3,S3⟩),(49,⟨3,S4⟩),(50,⟨3,S5⟩),(54,⟨3,S7⟩),(55,⟨3,S8⟩),(47,⟨1,opnS⟩),(51,⟨1,n13S⟩),(53,⟨1,ocS o17⟩),(52,⟨1,d17S⟩)] : NL Spec),FnC Tryz.prog p.1 p.2.fn:=by
   simp only [List.mem_cons,List.not_mem_nil,or_false]
   rintro p (rfl | rfl | rfl | rfl | rfl | rfl | rfl | rfl | rfl | rfl | rfl | rfl | rfl)
   · exact id_ok
   · exact dice_ok
   · exact hS0
   · exact hS1
   · exact hS3
   · exact hS4
   · exact hS5
   · exact hS7
   · exact hS8
   · exact opn_ok
   · exact n13_ok
   · exact n17_ok
   · exact d17_ok
 refine FnC.existsB 26 (fn:=Tryz.f26) Tryz.func26 rfl (by kernel_rfl) (fun x b hb=>by simp [encD1] at hb; rw [hb]; rfl) encX1_inj NsP.ne fun ds=>?_
 change W _ _ _ _ ⟨77,[(0, .ptr 0 0 0 0)],[(0,diceB ds)]⟩
 have ci:=idS_eq ds
 have wi:=idV_wfz ds
 have cd:=diceS_eq (d3 ds) 9
 have b0:=dn_nonneg (d3 ds) 9
 have b1:=dn_lt (d3 ds) (n:=9) (by omega)
 generalize dl (d3 ds) 9 = f at *
 generalize dn (d3 ds) 9 = d at *
 generalize d3 ds = e at *
 generalize idV ds = id at *
 obtain ⟨r0,c0,o0,e0,k0,rfl⟩:=hS0e ⟨(f,id),wi⟩
 obtain ⟨r1,c1,o1,e1,k1,rfl⟩:=hS1e ⟨(f,id),wi⟩
 obtain ⟨r3,c3,o3,e3,k3,rfl⟩:=hS3e ⟨(f,id),wi⟩
 obtain ⟨r4,c4,o4,e4,k4,rfl⟩:=hS4e ⟨(f,id),wi⟩
 obtain ⟨r5,c5,o5,e5,k5,rfl⟩:=hS5e ⟨(f,id),wi⟩
 obtain ⟨r7,c7,w7,e7,k7,rfl⟩:=hS7e f
 obtain ⟨r8,c8,o8,e8,k8,rfl⟩:=hS8e f
 clear hS0e hS1e hS3e hS4e hS5e hS7e hS8e
 have cA:=idS_eq f
 have wA:=idV_wfz f
 have cB:=diceS_eq (d3 f) 3
 have B0:=dn_nonneg (d3 f) 3
 have B1:=dn_lt (d3 f) (n:=3) (by omega)
 have cC:=diceS_eq (dl (d3 f) 3) 9
 have C0:=dn_nonneg (dl (d3 f) 3) 9
 have C1:=dn_lt (dl (d3 f) 3) (n:=9) (by omega)
 have cD:=diceS_eq f 4
 have D0:=dn_nonneg f 4
 have D1:=dn_lt f (n:=4) (by omega)
 have c6:=n13S_eq id (dn f 4) D0 (by omega)
 have k6:=o13_ok (n:=dn f 4) wi D0 (by omega)
 have c17:=ocS_eq o17 id
 have cDo:=d17S_eq id w7 k7
 have k9:=r17_ok wi k7
 have cO:=opnS_eq id (idV f)
 have k2 : Ox.OK ⟨id,4,1 + dn (d3 f) 3,[],[],dn (dl (d3 f) 3) 9,idV f,0,0,[],[],[],0,0,0,[]⟩:=mkOK wi (hn:=wfk (by omega) (by omega)) (hp6:=wfk (by omega) (by omega)) (hi7:=wA)
 have hw1 : IntKind.i64.wrap (1 + dn (d3 f) 3) = 1 + dn (d3 f) 3:=w64 (by omega) (by omega)
 generalize dn (dl (d3 f) 3) 9 = C at *
 generalize dl (dl (d3 f) 3) 9 = eC at *
 generalize dn (d3 f) 3 = B at *
 generalize dl (d3 f) 3 = eB at *
 generalize d3 f = eA at *
 generalize idV f = iA at *
 generalize dn f 4 = D at *
 generalize dl f 4 = eD at *
 generalize o13 id D = o6 at *
 generalize r17 id w7 = o9 at *
 generalize e13 id = x6 at *
 generalize e17 id = x9 at *
 clear wA B0 B1 C0 C1 D0 D1 k7
 simp only [encDI,encD1,diceB,Ox.cells] at ci cd c0 c1 c3 c4 c5 c7 c8 cA cB cC cD c6 ⊢
 simp only [o17,Ox.cells] at c17 cDo
 simp only [o08o,Ox.cells] at cO
 rcases (show d = 0 ∨ d = 1 ∨ d = 2 ∨ d = 3 ∨ d = 4 ∨ d = 5 ∨ d = 6 ∨ d = 7 ∨ d = 8 by omega) with rfl | rfl | rfl | rfl | rfl | rfl | rfl | rfl | rfl
 · repeat' (first | intro (hb : _ = _) | refine ZV ?_ | refine ZB tm sp ?_ | refine ZH ?_ ?_ | refine ZJ (by conv=>lhs; simp [ci,cd,c0]) ?_ | refine ZA ?_ ?_)
   refine ⟨(.agg (Ox.cells o0),[diceB e0]),⟨_,e0,k0,rfl⟩, ?_⟩
   exact RetB.raw [0] rfl (by conv=>lhs; simp [Ox.cells]) (by decide) (by rintro j hj; have hj : j < 1:=hj; rcases (show j = 0 by omega) with rfl; exact ⟨rfl,by simp [lk_st]⟩) (by simp [lk_st,diceB]) (by simp [Ox.cells])
 · repeat' (first | intro (hb : _ = _) | refine ZV ?_ | refine ZB tm sp ?_ | refine ZH ?_ ?_ | refine ZJ (by conv=>lhs; simp [ci,cd,c1]) ?_ | refine ZA ?_ ?_)
   refine ⟨(.agg (Ox.cells o1),[diceB e1]),⟨_,e1,k1,rfl⟩, ?_⟩
   exact RetB.raw [0] rfl (by conv=>lhs; simp [Ox.cells]) (by decide) (by rintro j hj; have hj : j < 1:=hj; rcases (show j = 0 by omega) with rfl; exact ⟨rfl,by simp [lk_st]⟩) (by simp [lk_st,diceB]) (by simp [Ox.cells])
 · repeat' (first | intro (hb : _ = _) | refine ZV ?_ | refine ZB tm sp ?_ | refine ZH ?_ ?_ | refine ZJ (by conv=>lhs; simp [ci,cd,cA,cO,cB,cC,hw1]) ?_ | refine ZA ?_ ?_)
   refine ⟨(.agg (Ox.cells (⟨id,4,1 + B,[],[],C,iA,0,0,[],[],[],0,0,0,[]⟩ : Ox)),[diceB eC]),⟨_,eC,k2,rfl⟩, ?_⟩
   exact RetB.raw [0] rfl (by conv=>lhs; simp [Ox.cells]) (by decide) (by rintro j hj; have hj : j < 1:=hj; rcases (show j = 0 by omega) with rfl; exact ⟨rfl,by simp [lk_st]⟩) (by simp [lk_st,diceB]) (by simp [Ox.cells])
 · repeat' (first | intro (hb : _ = _) | refine ZV ?_ | refine ZB tm sp ?_ | refine ZH ?_ ?_ | refine ZJ (by conv=>lhs; simp [ci,cd,c3]) ?_ | refine ZA ?_ ?_)
   refine ⟨(.agg (Ox.cells o3),[diceB e3]),⟨_,e3,k3,rfl⟩, ?_⟩
   exact RetB.raw [0] rfl (by conv=>lhs; simp [Ox.cells]) (by decide) (by rintro j hj; have hj : j < 1:=hj; rcases (show j = 0 by omega) with rfl; exact ⟨rfl,by simp [lk_st]⟩) (by simp [lk_st,diceB]) (by simp [Ox.cells])
 · repeat' (first | intro (hb : _ = _) | refine ZV ?_ | refine ZB tm sp ?_ | refine ZH ?_ ?_ | refine ZJ (by conv=>lhs; simp [ci,cd,c4]) ?_ | refine ZA ?_ ?_)
   refine ⟨(.agg (Ox.cells o4),[diceB e4]),⟨_,e4,k4,rfl⟩, ?_⟩
   exact RetB.raw [0] rfl (by conv=>lhs; simp [Ox.cells]) (by decide) (by rintro j hj; have hj : j < 1:=hj; rcases (show j = 0 by omega) with rfl; exact ⟨rfl,by simp [lk_st]⟩) (by simp [lk_st,diceB]) (by simp [Ox.cells])
 · repeat' (first | intro (hb : _ = _) | refine ZV ?_ | refine ZB tm sp ?_ | refine ZH ?_ ?_ | refine ZJ (by conv=>lhs; simp [ci,cd,c5]) ?_ | refine ZA ?_ ?_)
   refine ⟨(.agg (Ox.cells o5),[diceB e5]),⟨_,e5,k5,rfl⟩, ?_⟩
   exact RetB.raw [0] rfl (by conv=>lhs; simp [Ox.cells]) (by decide) (by rintro j hj; have hj : j < 1:=hj; rcases (show j = 0 by omega) with rfl; exact ⟨rfl,by simp [lk_st]⟩) (by simp [lk_st,diceB]) (by simp [Ox.cells])
 · repeat' (first | intro (hb : _ = _) | refine ZV ?_ | refine ZB tm sp ?_ | refine ZH ?_ ?_ | refine ZJ (by conv=>lhs; simp [ci,cd,cD,c6]) ?_ | refine ZA ?_ ?_)
   refine ⟨(.agg (Ox.cells o6),[diceB eD]),⟨_,eD,k6,rfl⟩, ?_⟩
   exact RetB.raw [0] rfl (by conv=>lhs; simp [Ox.cells]) (by decide) (by rintro j hj; have hj : j < 1:=hj; rcases (show j = 0 by omega) with rfl; exact ⟨rfl,by simp [lk_st]⟩) (by simp [lk_st,diceB]) (by simp [Ox.cells])
 · repeat' (first | intro (hb : _ = _) | refine ZV ?_ | refine ZB tm sp ?_ | refine ZH ?_ ?_ | refine ZJ (by conv=>lhs; simp [ci,cd,c17,c7,cDo]) ?_ | refine ZA ?_ ?_)
   refine ⟨(.agg (Ox.cells o9),[diceB e7]),⟨_,e7,k9,rfl⟩, ?_⟩
   exact RetB.raw [0] rfl (by conv=>lhs; simp [Ox.cells]) (by decide) (by rintro j hj; have hj : j < 1:=hj; rcases (show j = 0 by omega) with rfl; exact ⟨rfl,by simp [lk_st]⟩) (by simp [lk_st,diceB]) (by simp [Ox.cells])
 · repeat' (first | intro (hb : _ = _) | refine ZV ?_ | refine ZB tm sp ?_ | refine ZH ?_ ?_ | refine ZJ (by conv=>lhs; simp [ci,cd,c8]) ?_ | refine ZA ?_ ?_)
   refine ⟨(.agg (Ox.cells o8),[diceB e8]),⟨_,e8,k8,rfl⟩, ?_⟩
   exact RetB.raw [0] rfl (by conv=>lhs; simp [Ox.cells]) (by decide) (by rintro j hj; have hj : j < 1:=hj; rcases (show j = 0 by omega) with rfl; exact ⟨rfl,by simp [lk_st]⟩) (by simp [lk_st,diceB]) (by simp [Ox.cells])
end
section
attribute [local simp] instA slice3A slice3C makeSliceA indexA
attribute [-simp] mkv
attribute [local simp] mkv_hd hdA_cons hdA_ob hdA_ob'
def MnP (_ : List UInt8) (r : AV × List ABlk) : Prop := ∃ (l : List Lk) (ds' : List UInt8),NtV 11 22 l ∧ r = (.tup [.agg [.list 4 (l.map lkC)], .ptr 0 0 0 0],[diceB ds'])
theorem nts0_nrm : [[AV.nils]].map (nrmL Tryz.prog (leafs Tryz.prog 24)) = [[.list 4 (([] : List Lk).map lkC)]] := by
 rw [nwLeafs]
 simp only [List.map_cons,List.map_nil,nrmL,nrmV,uK,cK]
noncomputable def sdkN : SpecFn := nS Tryz.prog [24,46] sdkS
theorem sdkN_ok : FnC Tryz.prog 10 sdkN := sdk_ok.nrm _
theorem sdkN_eq0 (d : Nts) (f t k i m a b c e : Int) : sdkN [.agg [.list 4 (d.ls.map lkC)], .agg (.int .i64 f :: .int .i64 t :: .int .i64 k :: .int .u64 i :: .int .i64 m :: (zO ++ [.int .u64 a, .int .i64 b, .int .u64 c, .int .i64 e]))] [] = some (rN (sndN d.ls ⟨f,t,k,i,m,zOb,a,b,c,e⟩).1 (sndN d.ls ⟨f,t,k,i,m,zOb,a,b,c,e⟩).2,[]) := by
 rw [sdkN,nS_eq]
 simp only [nrmL]
 rw [nw_nrm,show nrmV Tryz.prog 46 (.agg (.int .i64 f :: .int .i64 t :: .int .i64 k :: .int .u64 i :: .int .i64 m :: (zO ++ [.int .u64 a, .int .i64 b, .int .u64 c, .int .i64 e]))) = .agg (⟨f,t,k,i,m,zOb,a,b,c,e⟩ : Msg).v by rw [nrmV,msg_nrmz]]
 exact sdkS_eq d _
theorem sdkN_eqo (d : Nts) (m : Msg) : sdkN [.agg [.list 4 (d.ls.map lkC)], .agg m.v] [] = some (rN (sndN d.ls m).1 (sndN d.ls m).2,[]) := by
 rw [sdkN,nS_eq]
 simp only [nrmL]
 rw [nw_nrm,show nrmV Tryz.prog 46 (.agg m.v) = .agg m.v by rw [nrmV,msg_nrm]]
 exact sdkS_eq d m
def dG (l : List UInt8) : ABlk := { gen := 1,kind := 2,elem := 78,size := 1,inl := false,rows := [[.list 1 (l.map byte)]] }
theorem NtV.n {n c : Nat} {ls : List Lk} (h : NtV n c ls) (hn : n ≤ 4096) (hc : c ≤ 100) : ∃ d : Nt8,d.ls = ls := ⟨⟨ls,by have := h.len; omega,h.okK hn⟩,rfl⟩
theorem mdn_ex : ∃ S,FnC Tryz.prog 7 S ∧ ∀ ds, ∃ r,S (encNw ds).1 (encNw ds).2 = some r ∧ MnP ds r := by
 obtain ⟨SO,hSO,hSOe⟩:=mob_ex
 have sp : ∀ p ∈ ([(24,⟨3,newS⟩),(8,⟨3,diceS⟩),(25,⟨3,idS⟩),(26,⟨3,SO⟩),(15,⟨1,cutS⟩),(13,⟨1,dlvS⟩),(10,⟨1,sdkN⟩)] : NL Spec),FnC Tryz.prog p.1 p.2.fn:=by
   simp only [List.mem_cons,List.not_mem_nil,or_false]
   rintro p (rfl | rfl | rfl | rfl | rfl | rfl | rfl)
   · exact new_ok
   · exact dice_ok
   · exact id_ok
   · exact hSO
   · exact cut_ok
   · exact dlv_ok
   · exact sdkN_ok
 refine FnC.existsB 7 (fn:=Tryz.f7) Tryz.func7 rfl (by kernel_rfl) (fun x b hb=>by simp [encNw] at hb) encNw_inj (fun ds=>⟨_,[],ds,NtV.nil.mono (by omega) (by omega),rfl⟩) fun ds=>?_
 change W _ _ _ _ ⟨81,[(0, .list 1 (ds.map byte))],[]⟩
 have c1:=newS_eq ds
 generalize ds.take 400 = e0 at *
 have d1:=diceS_eq e0 12
 have b1:=dn_lt e0 (n:=12) (by omega)
 have b0:=dn_nonneg e0 12
 generalize dl e0 12 = e1 at *
 obtain ⟨kk,hkk⟩ : ∃ k : Nat,dn e0 12 = k:=⟨_,(Int.toNat_of_nonneg b0).symm⟩
 rw [hkk] at d1 b1
 clear hkk b0
 simp only [diceB] at c1 d1 ⊢
 repeat' (first | intro (hb : _ = _) | refine ZV ?_ | refine ZB tm sp ?_ | refine ZH ?_ ?_ | refine ZJ (by conv=>lhs; simp [c1,d1]) ?_ | refine ZA ?_ ?_)
 refine W.nrmB 96 (leafs Tryz.prog 24) rfl rfl ?_
 rw [nts0_nrm]
 refine W.loop rfl (ι:={ q : Nat × Nat × List Lk × List UInt8 × NL ABlk // q.1 + q.2.1 ≤ 11 ∧ NtV q.2.1 (2 * q.2.1) q.2.2.1 ∧ lk q.2.2.2.2 48 = some { gen:=1,kind:=2,elem:=24,size:=1,inl:=false,rows:=[[.nils]] } ∧ lk q.2.2.2.2 96 = some { gen:=1,kind:=2,elem:=24,size:=1,inl:=false,rows:=[[.list 4 (q.2.2.1.map lkC)]] } ∧ lk q.2.2.2.2 272 = some (dG q.2.2.2.1) })
   (fun q=>⟨81,[(2, .ptr 48 1 0 0),(4, .ptr 272 1 0 0),(5, .ptr 96 1 0 0),(6, .int .i64 (q.1.1 : Nat))],q.1.2.2.2.2⟩) (fun q=>q.1.1)
   ⟨(kk,0,[],e1,_),by dsimp only; omega,NtV.nil,rfl,rfl,rfl⟩ (AS.le_of rfl ⟨rfl,rfl,rfl,rfl,trivial⟩ (fun _=>rfl)) ?_
 clear c1 d1 b1
 rintro ⟨⟨k,n,l,f,H⟩,hk,hv,h0,h1,h2⟩
 dsimp only at hk hv h0 h1 h2 ⊢
 simp only [dG] at h2
 by_cases hk0 : k = 0
 · subst hk0
   have q1 : ¬ (0 : Int) < 0:=by omega
   repeat' (first | intro (hb : _ = _) | refine ZV ?_ | refine ZB tm sp ?_ | refine ZH ?_ ?_ | refine ZJ (by conv=>lhs; simp [h0,h1,h2,q1]) ?_ | refine ZA ?_ ?_)
   refine ⟨(.tup [.agg [.list 4 (l.map lkC)], .ptr 0 0 0 0],[diceB f]),⟨l,f,hv.mono (by omega) (by omega),rfl⟩, ?_⟩
   exact RetB.raw [272] rfl (by conv=>lhs; simp) (by decide) (by rintro j hj; exact absurd hj (by simp [encNw])) (by simp [lk_st,h2,diceB]) (by simp [h2])
 · have q1 : (0 : Int) < (k : Int):=by omega
   have q1' : 0 < k:=by omega
   have hw : IntKind.i64.wrap ((k : Int) - 1) = ((k - 1 : Nat) : Int):=by rw [w64 (by omega) (by omega)]; omega
   have hwu : IntKind.u64.wrap (k : Int) = (k : Int):=wu64 (by omega) (by omega)
   have da:=diceS_eq f 4
   have db:=diceS_eq (dl f 4) 4
   have dc:=diceS_eq (dl (dl f 4) 4) 5
   have ra : R4 (dn f 4):=⟨dn_nonneg f 4,dn_lt f (n:=4) (by omega)⟩
   have rb : R4 (dn (dl f 4) 4):=⟨dn_nonneg (dl f 4) 4,dn_lt (dl f 4) (n:=4) (by omega)⟩
   have c0:=dn_nonneg (dl (dl f 4) 4) 5
   have c5:=dn_lt (dl (dl f 4) 4) (n:=5) (by omega)
   generalize dl (dl (dl f 4) 4) 5 = f3 at *
   generalize dn (dl (dl f 4) 4) 5 = c at *
   generalize dl (dl f 4) 4 = f2 at *
   generalize dn (dl f 4) 4 = b at *
   generalize dl f 4 = f1 at *
   generalize dn f 4 = a at *
   simp only [diceB] at da db dc
   obtain ⟨d8,hd8⟩:=hv.n (by omega) (by omega)
   have next : ∀ (l2 : List Lk),NtV (n + 1) (2 * n + 2) l2 → NtV (n + 1) (2 * (n + 1)) l2:=fun l2 h=>h.mono (by omega) (by omega)
   have stay:=next l (hv.mono (by omega) (by omega))
   rcases (show c = 0 ∨ c = 1 ∨ (¬ c = 0 ∧ ¬ c = 1) by omega) with rfl | rfl | ⟨x0,x1⟩
   · have dx:=diceS_eq f3 3
     have cu:=fun x=>cutS_eq d8 a b x
     have vu:=fun x=>cut_v hv ra rb x
     generalize dl f3 3 = f4 at *
     generalize dn f3 3 = x at *
     simp only [diceB] at dx
     simp only [Nt8.n,Nts.v,hd8,rN] at cu
     cases hx : decide (0 < x) with
     | true =>
       have cu:=cu true
       have vu:=vu true
       have hx:=of_decide_eq_true hx
       generalize cutN l a b true = R at cu vu
       obtain ⟨l2,e⟩:=R
       dsimp only at cu vu
       by_cases he : e = 0
       · subst he
         have vu:=next l2 ((vu rfl).mono (by omega) (by omega))
         repeat' (first | intro (hb : _ = _) | refine ZV ?_ | refine ZB tm sp ?_ | refine ZH ?_ ?_ | refine ZJ (by conv=>lhs; simp [h0,h1,h2,q1,q1',da,db,dc,dx,hx,cu,hw]) ?_ | refine ZA ?_ ?_)
         exact ⟨⟨(k - 1,n + 1,l2,f4,_),by dsimp only; omega,vu,by simp [lk_st,h0],by simp [lk_st],by simp [lk_st,dG]⟩,by dsimp only; omega,AS.le_of rfl ⟨rfl,rfl,rfl,rfl,trivial⟩ (fun _=>rfl)⟩
       · have he : (e == 0) = false:=by simpa using he
         repeat' (first | intro (hb : _ = _) | refine ZV ?_ | refine ZB tm sp ?_ | refine ZH ?_ ?_ | refine ZJ (by conv=>lhs; simp [h0,h1,h2,q1,q1',da,db,dc,dx,hx,cu,he,hw]) ?_ | refine ZA ?_ ?_)
         exact ⟨⟨(k - 1,n + 1,l,f4,_),by dsimp only; omega,stay,by simp [lk_st,h0],by simp [lk_st,h1],by simp [lk_st,dG]⟩,by dsimp only; omega,AS.le_of rfl ⟨rfl,rfl,rfl,rfl,trivial⟩ (fun _=>rfl)⟩
     | false =>
       have cu:=cu false
       have vu:=vu false
       have hx:=of_decide_eq_false hx
       generalize cutN l a b false = R at cu vu
       obtain ⟨l2,e⟩:=R
       dsimp only at cu vu
       by_cases he : e = 0
       · subst he
         have vu:=next l2 ((vu rfl).mono (by omega) (by omega))
         repeat' (first | intro (hb : _ = _) | refine ZV ?_ | refine ZB tm sp ?_ | refine ZH ?_ ?_ | refine ZJ (by conv=>lhs; simp [h0,h1,h2,q1,q1',da,db,dc,dx,hx,cu,hw]) ?_ | refine ZA ?_ ?_)
         exact ⟨⟨(k - 1,n + 1,l2,f4,_),by dsimp only; omega,vu,by simp [lk_st,h0],by simp [lk_st],by simp [lk_st,dG]⟩,by dsimp only; omega,AS.le_of rfl ⟨rfl,rfl,rfl,rfl,trivial⟩ (fun _=>rfl)⟩
       · have he : (e == 0) = false:=by simpa using he
         repeat' (first | intro (hb : _ = _) | refine ZV ?_ | refine ZB tm sp ?_ | refine ZH ?_ ?_ | refine ZJ (by conv=>lhs; simp [h0,h1,h2,q1,q1',da,db,dc,dx,hx,cu,he,hw]) ?_ | refine ZA ?_ ?_)
         exact ⟨⟨(k - 1,n + 1,l,f4,_),by dsimp only; omega,stay,by simp [lk_st,h0],by simp [lk_st,h1],by simp [lk_st,dG]⟩,by dsimp only; omega,AS.le_of rfl ⟨rfl,rfl,rfl,rfl,trivial⟩ (fun _=>rfl)⟩
   · have cu:=dlvS_eq d8.n a b
     have vu:=fun h=>dlv_v hv (by omega) ra rb (f:=a) (t:=b) h
     simp only [Nt8.n,Nts.v,hd8,rDl] at cu
     generalize dlvN l a b = R at cu vu
     obtain ⟨m,l2,e⟩:=R
     dsimp only at cu vu
     obtain ⟨g1,g2,g3,g4,g5,o,g6,g7,g8,g9⟩:=m
     simp only [Msg.v] at cu
     by_cases he : e = 0
     · subst he
       have vu : NtV (n + 1) (2 * (n + 1)) l2:=by
         obtain ⟨_,_,_,_,h3,h4⟩:=vu rfl
         simp only [Prod.mk.injEq] at h3
         rw [h3.2.1]
         exact next _ (h4.mono (by omega) (by omega))
       repeat' (first | intro (hb : _ = _) | refine ZV ?_ | refine ZB tm sp ?_ | refine ZH ?_ ?_ | refine ZJ (by conv=>lhs; simp [h0,h1,h2,q1,q1',da,db,dc,cu,hw]) ?_ | refine ZA ?_ ?_)
       exact ⟨⟨(k - 1,n + 1,l2,f3,_),by dsimp only; omega,vu,by simp [lk_st,h0],by simp [lk_st],by simp [lk_st,dG]⟩,by dsimp only; omega,AS.le_of rfl ⟨rfl,rfl,rfl,rfl,trivial⟩ (fun _=>rfl)⟩
     · have he : (e == 0) = false:=by simpa using he
       repeat' (first | intro (hb : _ = _) | refine ZV ?_ | refine ZB tm sp ?_ | refine ZH ?_ ?_ | refine ZJ (by conv=>lhs; simp [h0,h1,h2,q1,q1',da,db,dc,cu,he,hw]) ?_ | refine ZA ?_ ?_)
       exact ⟨⟨(k - 1,n + 1,l,f3,_),by dsimp only; omega,stay,by simp [lk_st,h0],by simp [lk_st,h1],by simp [lk_st,dG]⟩,by dsimp only; omega,AS.le_of rfl ⟨rfl,rfl,rfl,rfl,trivial⟩ (fun _=>rfl)⟩
   · have x0 : (c == 0) = false:=by simpa using x0
     have x1 : (c == 1) = false:=by simpa using x1
     have dx:=diceS_eq f3 4
     have y0:=dn_nonneg f3 4
     have y1:=dn_lt f3 (n:=4) (by omega)
     have hw1 : IntKind.i64.wrap (1 + dn f3 4) = 1 + dn f3 4:=w64 (by omega) (by omega)
     have ci:=idS_eq (dl f3 4)
     have dy:=diceS_eq (d3 (dl f3 4)) 3
     generalize dl (d3 (dl f3 4)) 3 = f6 at *
     generalize dn (d3 (dl f3 4)) 3 = z at *
     generalize d3 (dl f3 4) = f5 at *
     generalize idV (dl f3 4) = id at *
     generalize dl f3 4 = f4 at *
     generalize dn f3 4 = y at *
     simp only [diceB] at dx ci dy
     clear y0 y1
     by_cases hz : z = 0
     · subst hz
       obtain ⟨_,cO,o,f7,ok,rfl⟩:=hSOe f6
       simp only [encD1,diceB] at cO
       have cs:=sdkN_eqo d8.n ⟨a,b,1 + y,id,0,o.ob ok,k,0,0,0⟩
       obtain ⟨e1,v1⟩:=snd_v hv (by omega) (m:=⟨a,b,1 + y,id,0,o.ob ok,k,0,0,0⟩) ra rb
       simp only [Nt8.n,hd8,rN] at cs
       rw [e1] at cs
       have v1:=next _ (v1.mono (Nat.le_refl _) (by omega))
       generalize putK _ l = l2 at cs v1
       simp only [Msg.v,Ox.ob,Ox.cells,List.cons_append,List.nil_append] at cs cO
       repeat' (first | intro (hb : _ = _) | refine ZV ?_ | refine ZB tm sp ?_ | refine ZH ?_ ?_ | refine ZJ (by conv=>lhs; simp [h0,h1,h2,q1,q1',da,db,dc,dx,dy,ci,x0,x1,cs,cO,hw,hw1,hwu]) ?_ | refine ZA ?_ ?_)
       exact ⟨⟨(k - 1,n + 1,l2,f7,_),by dsimp only; omega,v1,by simp [lk_st,h0],by simp [lk_st],by simp [lk_st,dG]⟩,by dsimp only; omega,AS.le_of rfl ⟨rfl,rfl,rfl,rfl,trivial⟩ (fun _=>rfl)⟩
     · have hz : (z == 0) = false:=by simpa using hz
       have cs:=sdkN_eq0 d8.n a b (1 + y) id 0 k 0 0 0
       obtain ⟨e1,v1⟩:=snd_v hv (by omega) (m:=⟨a,b,1 + y,id,0,zOb,k,0,0,0⟩) ra rb
       simp only [Nt8.n,hd8,rN] at cs
       rw [e1] at cs
       have v1:=next _ (v1.mono (Nat.le_refl _) (by omega))
       generalize putK _ l = l2 at cs v1
       simp only [zO,List.cons_append,List.nil_append] at cs
       repeat' (first | intro (hb : _ = _) | refine ZV ?_ | refine ZB tm sp ?_ | refine ZH ?_ ?_ | refine ZJ (by conv=>lhs; simp [h0,h1,h2,q1,q1',da,db,dc,dx,dy,ci,x0,x1,cs,hz,hw,hw1,hwu]) ?_ | refine ZA ?_ ?_)
       exact ⟨⟨(k - 1,n + 1,l2,f6,_),by dsimp only; omega,v1,by simp [lk_st,h0],by simp [lk_st],by simp [lk_st,dG]⟩,by dsimp only; omega,AS.le_of rfl ⟨rfl,rfl,rfl,rfl,trivial⟩ (fun _=>rfl)⟩
end
section
attribute [local simp] instA slice3A slice3C makeSliceA indexA
attribute [-simp] mkv
attribute [local simp] mkv_hd hdA_cons hdA_ob hdA_ob'
theorem eq2g (a b c d : Int) : eqV Tryz.prog 9 41 (.agg [.int .i64 a, .int .i64 b]) (.agg [.int .i64 c, .int .i64 d]) = some (a == c && (b == d && true)) := by
 rw [eqV_arr (e:=3) (n:=2) (by kernel_rfl),isI,if_pos rfl,cI2]
 show eqIs Tryz.prog (eqV Tryz.prog (7 + 1)) 3 1 _ _ [0,1] = _
 simp only [eqIs,Nat.zero_mul,Nat.one_mul,pI0,pI1,eqi]
theorem neq2s (a b : Int) : eqlA Tryz.prog .neq 41 (.agg [.int .i64 a, .int .i64 b]) (.agg [.int .i64 a, .int .i64 b]) = .ret (.bool false) := by
 simp [eqlA,tg2,eq2g]
attribute [local simp] neq2s
def nwR (n : List Lk) : List AV := [.list 4 (n.map lkC)]
structure NmI where
 raw : RawN
 seeds : List UInt8
 msg : Raw 46
 a : Int
 b : Int
 ct : Bool
def encNm (x : NmI) : List AV := [.agg x.raw.1, .list 1 (x.seeds.map byte), .agg x.msg.1, .int .i64 x.a, .int .i64 x.b, .bool x.ct]
theorem nmv_ok : FnC Tryz.prog 3 (mkS encNm fun _ => (.bool true,[])) := by
 obtain ⟨SN,hSN,hSNe⟩:=kpN_ex
 obtain ⟨SO,hSO,hSOe⟩:=kpO_ex
 obtain ⟨SM,hSM,hSMe⟩:=mdn_ex
 have sp : ∀ p ∈ ([(4,⟨1,sanS⟩),(5,⟨1,SN⟩),(6,⟨1,SO⟩),(7,⟨3,SM⟩),(8,⟨3,diceS⟩),(9,⟨1,sdpS⟩),(10,⟨1,sdkS⟩),(11,⟨1,snwS⟩),(12,⟨1,dlpS⟩),(13,⟨1,dlvS⟩),(14,⟨1,cutS⟩),(15,⟨1,cutS⟩),(16,⟨1,smeS⟩),(17,⟨1,fgtS⟩),(18,⟨1,fgtS⟩),(19,⟨1,rdyS⟩),(20,⟨1,rdyS⟩),(21,⟨1,vkS⟩),(22,⟨1,vkS⟩)] : NL Spec),FnC Tryz.prog p.1 p.2.fn:=by
   simp only [List.mem_cons,List.not_mem_nil,or_false]
   rintro p (rfl | rfl | rfl | rfl | rfl | rfl | rfl | rfl | rfl | rfl | rfl | rfl | rfl | rfl | rfl | rfl | rfl | rfl | rfl)
   · exact san_ok
   · exact hSN
   · exact hSO
   · exact hSM
   · exact dice_ok
   · exact sdp_ok
   · exact sdk_ok
   · exact snw_ok
   · exact dlp_ok
   · exact dlv_ok
   · exact pct_ok
   · exact cut_ok
   · exact sme_ok
   · exact pfg_ok
   · exact fgt_ok
   · exact pry_ok
   · exact rdy_ok
   · exact vap2_ok
   · exact rvk21_ok
 refine FnC.walk 3 (fn:=Tryz.f3) Tryz.func3 rfl (by kernel_rfl) fun x=>?_
 obtain ⟨raw,seeds,msg,a,b,ct⟩:=x
 have cs:=sanS_eq
 obtain ⟨_,cN,bN,rfl,hbN⟩:=hSNe raw
 simp only [encRN] at cN
 obtain ⟨rc,rty,rbd⟩:=raw
 obtain ⟨mc,mty⟩:=msg
 obtain ⟨x0,x1,x2,x3,x4,xo,x6,x7,x8,x9,rfl, -, -, -, -, -,hxo, -, -, -, -⟩:=viewMessage mty
 obtain ⟨_,cO,bO,rfl,hbO⟩:=hSOe ⟨xo,hxo⟩
 simp only [encR] at cO
 dsimp only at hbO hbN cN
 change W _ (Ret _ _ (.bool true) []) _ _ ⟨230,[(0, .agg rc),(1, .list 1 (seeds.map byte)),(2, .agg (.int .i64 x0 :: .int .i64 x1 :: .int .i64 x2 :: .int .u64 x3 :: .int .i64 x4 :: (xo ++ [.int .u64 x6, .int .i64 x7, .int .u64 x8, .int .i64 x9]))),(3, .int .i64 a),(4, .int .i64 b),(5, .bool ct)],[]⟩
 obtain ⟨rows,rfl, -⟩:=viewNet rty
 have r3:=raw_len hxo
 have r0:=raw_all hxo
 have hc : xo.all AV.cellish = true:=by rw [List.all_eq_true] at r0 ⊢; intro x hx; exact (dat_split (r0 x hx)).1
 have hi : xo.all AV.isInl = true:=by rw [List.all_eq_true] at r0 ⊢; intro x hx; exact (dat_split (r0 x hx)).2
 have r4 : ∀ (l : List AV) (n : Nat),36 ≤ n → (xo ++ l).take n = xo ++ l.take (n - 36):=fun l n h=>by rw [List.take_append,r3,List.take_of_length_le (by omega)]
 have r5 : ∀ (l : List AV) (n : Nat),36 ≤ n → (xo ++ l).drop n = l.drop (n - 36):=fun l n h=>by rw [List.drop_append,r3,List.drop_eq_nil_of_le (by omega),List.nil_append]
 have r6 : ∀ b : Bool,xo.all (fun x=>x.cellish && (!b || x.isInl)) = true:=fun b=>by
   rw [List.all_eq_true] at hc hi ⊢
   intro x hx
   simp [hc x hx,hi x hx]
 cases bN with
 | false =>
   repeat' (first | intro (hb : _ = _) | refine ZV ?_ | refine ZB tm sp ?_ | refine ZH ?_ ?_ | refine ZJ (by conv=>lhs; simp [cs,cN,r3,r4,r5,r6,hc,hi]) ?_ | refine ZA ?_ ?_)
   all_goals (first | refine Yd ?_ | refine Ye ?_)
   all_goals (first | rfl | (simp; done) | (simp_all; done) | (simp_all; omega))
 | true =>
 cases bO with
 | false =>
   repeat' (first | intro (hb : _ = _) | refine ZV ?_ | refine ZB tm sp ?_ | refine ZH ?_ ?_ | refine ZJ (by conv=>lhs; simp [cs,cN,cO,r3,r4,r5,r6,hc,hi]) ?_ | refine ZA ?_ ?_)
   all_goals (first | refine Yd ?_ | refine Ye ?_)
   all_goals (first | rfl | (simp; done) | (simp_all; done) | (simp_all; omega))
 | true =>
 repeat' (first | intro (hb : _ = _) | refine ZV ?_ | refine ZB (id:=0) tm sp ?_ | refine ZB (id:=1) tm sp ?_ | refine ZB (id:=2) tm sp ?_ | refine ZB (id:=3) tm sp ?_ | refine ZB (id:=4) tm sp ?_ | refine ZH ?_ ?_ | refine ZJ (by conv=>lhs; simp [cs,cN,cO,r3,r4,r5,r6,hc,hi]) ?_ | refine ZA ?_ ?_)
 obtain ⟨l0,e0,hl0,hq0⟩:=hbN rfl
 simp only [List.cons.injEq,AV.list.injEq,true_and,and_true] at e0
 subst e0
 obtain ⟨ob,hob⟩ : ∃ q : Ob,xo = q.cells:=⟨⟨xo,hxo,hbO rfl⟩,rfl⟩
 subst hob
 have z0 : Bdn 22 20 l0:=⟨by omega,hq0⟩
 clear r0 r3 r4 r5 r6 hc hi cN cO hbN hbO hl0 hq0 rty rbd mty hSNe hSOe cs
 obtain ⟨_,cm,l1,ds,hv,rfl⟩:=hSMe seeds
 have z1 : Bdn 22 20 l1:=hv.bdn.mono (by omega) (by omega)
 clear hSMe hv
 have cn1:=diceS_eq ds 4
 have cn2:=diceS_eq (dl ds 4) 4
 generalize dl (dl ds 4) 4 = ds2 at *
 generalize dn (dl ds 4) 4 = w2 at *
 generalize dl ds 4 = ds1 at *
 generalize dn ds 4 = w1 at *
 simp only [encNw,diceB] at cm cn1 cn2
 have m2' : (2 : Nat) ≤ maxLen:=by decide
 have m3' : (3 : Nat) ≤ maxLen:=by decide
 repeat' (first | intro (hb : _ = _) | refine ZV ?_ | refine ZB (id:=5) tm sp ?_ | refine ZB (id:=6) tm sp ?_ | refine ZB (id:=7) tm sp ?_ | refine ZB (id:=8) tm sp ?_ | refine ZH ?_ ?_ | refine ZJ (by conv=>lhs; simp [cm,cn1,cn2,m2']) ?_ | refine ZA ?_ ?_)
 refine W.frz 64 rfl (by conv=>lhs; simp [frqT,frqV,frqVs,frqL,frq1,frz1,lk_st]) ?_
 obtain ⟨nl,hnl⟩ : ∃ nl : List (List Lk),nl = [l0,l1]:=⟨_,rfl⟩
 rw [show ([[AV.list 4 (l0.map lkC)],[.list 4 (l1.map lkC)]] : List (List AV)) = nl.map nwR by rw [hnl]; rfl]
 have hnd : ∀ n ∈ nl,Bdn 22 20 n:=fun n hn=>by
   rw [hnl] at hn
   simp only [List.mem_cons,List.not_mem_nil,or_false] at hn
   rcases hn with rfl | rfl
   · exact z0
   · exact z1
 have hnn : nl.length = 2:=by rw [hnl]; rfl
 clear hnl cm cn1 cn2 z0 z1
 refine W.loop rfl (ι:={ q : Nat × List UInt8 × NL ABlk // q.1 ≤ 2 ∧ lk q.2.2 144 = some { gen:=1,kind:=2,elem:=46,size:=45,inl:=false,rows:=[(⟨x0,x1,x2,x3,x4,ob,x6,x7,x8,x9⟩ : Msg).v] } ∧ lk q.2.2 848 = some (dG q.2.1) ∧ lk q.2.2 256 = some { gen:=1,kind:=2,elem:=46,size:=45,inl:=false,rows:=[(⟨w1,w2,x2,x3,x4,ob,x6,x7,x8,x9⟩ : Msg).v] } })
   (fun q=>⟨230,[(3, .int .i64 a),(4, .int .i64 b),(5, .bool ct),(8, .ptr 144 1 0 0),(14, .ptr 848 1 0 0),(15, .ptr 256 1 0 0),(64, .list 1 (nl.map nwR)),(65, .int .i64 2),(66, .int .i64 (q.1.1 : Nat))],q.1.2.2⟩) (fun q=>2 - q.1.1)
   ⟨(0,ds2,_),by dsimp only; omega,by simp [lk,lk_st],by simp [lk,lk_st,dG],by simp [lk,lk_st]⟩ (AS.le_of rfl ⟨rfl,rfl,rfl,rfl,rfl,rfl,rfl,rfl,rfl,trivial⟩ (fun _=>rfl)) ?_
 rintro ⟨⟨i,ds,H⟩,hi,h144,h848,h256⟩
 dsimp only at hi h144 h848 h256 ⊢
 simp only [Msg.v,dG] at h144 h848 h256
 by_cases hi2 : i = 2
 · subst hi2
   repeat' (first | intro (hb : _ = _) | refine ZV ?_ | refine ZB tm sp ?_ | refine ZH ?_ ?_ | refine ZJ (by conv=>lhs; simp [h144]) ?_ | refine ZA ?_ ?_)
   all_goals (first | refine Yd ?_ | refine Ye ?_)
   all_goals (first | rfl | (simp; done) | (simp_all; done) | (simp_all; omega))
 have q1 : (i : Int) < 2:=by omega
 have hwi : IntKind.i64.wrap ((i : Int) + 1) = ((i + 1 : Nat) : Int):=w64 (by omega) (by omega)
 obtain ⟨n,hn⟩:=get_lt (l:=nl) (i:=i) (by omega)
 have hz:=hnd n (List.mem_of_getElem? hn)
 have hm : (nl.map nwR)[i]? = some [.list 4 (n.map lkC)]:=by rw [List.getElem?_map,hn]; rfl
 have q2 : ¬ nl.length ≤ i:=by omega
 clear hn
 repeat' (first | intro (hb : _ = _) | refine ZV ?_ | refine ZB (id:=9) tm sp ?_ | refine ZB (id:=10) tm sp ?_ | refine ZB (id:=11) tm sp ?_ | refine ZH ?_ ?_ | refine ZJ (by conv=>lhs; simp [q1,q2,hm,h144,h848,h256,m2']) ?_ | refine ZA ?_ ?_)
 refine W.frz 72 rfl (by conv=>lhs; simp [frqT,frqV,frqVs,frqL,frq1,frz1,lk_st]) ?_
 obtain ⟨ml,hml⟩ : ∃ ml : List Msg,ml = [⟨x0,x1,x2,x3,x4,ob,x6,x7,x8,x9⟩,⟨w1,w2,x2,x3,x4,ob,x6,x7,x8,x9⟩]:=⟨_,rfl⟩
 have hmr : ([.int .i64 x0 :: .int .i64 x1 :: .int .i64 x2 :: .int .u64 x3 :: .int .i64 x4 :: (ob.cells ++ [.int .u64 x6, .int .i64 x7, .int .u64 x8, .int .i64 x9]), .int .i64 w1 :: .int .i64 w2 :: .int .i64 x2 :: .int .u64 x3 :: .int .i64 x4 :: (ob.cells ++ [.int .u64 x6, .int .i64 x7, .int .u64 x8, .int .i64 x9])] : List (List AV)) = ml.map Msg.v:=by rw [hml]; rfl
 have hmn : ml.length = 2:=by rw [hml]; rfl
 rw [hmr]
 clear hml hmr
 generalize ((lk H 288).getD {}).gen + 1 = g17 at *
 refine W.loop rfl (ι:={ q : Nat × NL ABlk // q.1 ≤ 2 ∧ lk q.2 144 = some { gen:=1,kind:=2,elem:=46,size:=45,inl:=false,rows:=[(⟨x0,x1,x2,x3,x4,ob,x6,x7,x8,x9⟩ : Msg).v] } ∧ lk q.2 848 = some (dG ds) ∧ lk q.2 256 = some { gen:=1,kind:=2,elem:=46,size:=45,inl:=false,rows:=[(⟨w1,w2,x2,x3,x4,ob,x6,x7,x8,x9⟩ : Msg).v] } ∧ lk q.2 288 = some { gen:=g17,kind:=2,elem:=24,size:=1,inl:=false,rows:=[[.list 4 (n.map lkC)]] } })
   (fun q=>⟨230,[(3, .int .i64 a),(4, .int .i64 b),(5, .bool ct),(8, .ptr 144 1 0 0),(14, .ptr 848 1 0 0),(15, .ptr 256 1 0 0),(17, .ptr 288 g17 0 0),(64, .list 1 (nl.map nwR)),(65, .int .i64 2),(66, .int .i64 (i : Nat)),(72, .list 45 (ml.map Msg.v)),(73, .int .i64 2),(74, .int .i64 (q.1.1 : Nat))],q.1.2⟩) (fun q=>2 - q.1.1)
   ⟨(0,_),by dsimp only; omega,by simp [lk_st,h144],by simp [lk_st,h848,dG],by simp [lk_st,h256],by simp [lk_st]⟩ (AS.le_of rfl ⟨rfl,rfl,rfl,rfl,rfl,rfl,rfl,rfl,rfl,rfl,rfl,rfl,rfl,trivial⟩ (fun _=>rfl)) ?_
 clear h144 h848 h256 H
 rintro ⟨⟨j,H⟩,hj,h144,h848,h256,h288⟩
 dsimp only at hj h144 h848 h256 h288 ⊢
 simp only [Msg.v,dG] at h144 h848 h256
 by_cases hj2 : j = 2
 rotate_left 1
 · have q3 : (j : Int) < 2:=by omega
   have hwj : IntKind.i64.wrap ((j : Int) + 1) = ((j + 1 : Nat) : Int):=w64 (by omega) (by omega)
   obtain ⟨y,hy⟩:=get_lt (l:=ml) (i:=j) (by omega)
   have hmy : (ml.map Msg.v)[j]? = some y.v:=by rw [List.getElem?_map,hy]; rfl
   have q4 : ¬ ml.length ≤ j:=by omega
   clear hy
   obtain ⟨d8,hd8⟩:=hz.nt8 (by omega) (by omega)
   have cP:=sdpS_eq d8 y
   have cR:=sdkS_eq d8.n y
   have vs:=hz.snd y
   simp only [Nt8.n,hd8] at cP cR
   generalize sndN n y = R at cP cR vs
   obtain ⟨u,e⟩:=R
   dsimp only at vs
   obtain ⟨du,hu⟩:=vs.nts (by omega) (by omega)
   have cW:=snwS_eq du
   obtain ⟨y0,y1,y2,y3,y4,yo,y6,y7,y8,y9⟩:=y
   simp only [Nts.v,hu,rN,Msg.v] at cP cR cW hmy
   repeat' (first | intro (hb : _ = _) | refine ZV ?_ | refine ZB tm sp ?_ | refine ZH ?_ ?_ | refine ZJ (by conv=>lhs; simp [q3,q4,hmy,h144,h848,h256,h288,cP,cR,cW,hwj]) ?_ | refine ZA ?_ ?_)
   exact ⟨⟨(j + 1,_),by dsimp only; omega,by simp [lk_st,h144],by simp [lk_st,h848,dG],by simp [lk_st,h256],by simp [lk_st,h288]⟩,by dsimp only; omega,AS.le_of rfl ⟨rfl,rfl,rfl,rfl,rfl,rfl,rfl,rfl,rfl,rfl,rfl,rfl,rfl,trivial⟩ (fun _=>rfl)⟩
 subst hj2
 clear hmn
 have cn1:=diceS_eq ds 4
 have cn2:=diceS_eq (dl ds 4) 4
 generalize dl (dl ds 4) 4 = ds2 at *
 generalize dn (dl ds 4) 4 = v2 at *
 generalize dl ds 4 = ds1 at *
 generalize dn ds 4 = v1 at *
 simp only [diceB] at cn1 cn2
 obtain ⟨a3,ha3⟩ : ∃ x,IntKind.i64.wrap (((a % 2 ^ IntKind.i64.bits).toNat &&& 3 % 2 ^ IntKind.i64.bits : Nat) : Int) = x:=⟨_,rfl⟩
 obtain ⟨b3,hb3⟩ : ∃ x,IntKind.i64.wrap (((b % 2 ^ IntKind.i64.bits).toNat &&& 3 % 2 ^ IntKind.i64.bits : Nat) : Int) = x:=⟨_,rfl⟩
 repeat' (first | intro (hb : _ = _) | refine ZV ?_ | refine ZB (id:=12) tm sp ?_ | refine ZB (id:=13) tm sp ?_ | refine ZB (id:=14) tm sp ?_ | refine ZB (id:=15) tm sp ?_ | refine ZB (id:=16) tm sp ?_ | refine ZB (id:=17) tm sp ?_ | refine ZB (id:=18) tm sp ?_ | refine ZB (id:=19) tm sp ?_ | refine ZH ?_ ?_ | refine ZJ (by conv=>lhs; simp [h144,h848,h256,h288,cn1,cn2,m3',ha3,hb3]) ?_ | refine ZA ?_ ?_)
 refine W.frz 113 rfl (by conv=>lhs; simp [frqT,frqV,frqVs,frqL,frq1,frz1,lk_st]) ?_
 obtain ⟨pl,hpl⟩ : ∃ pl : List (Int × Int),pl = [(a,b),(a3,b3),(v1,v2)]:=⟨_,rfl⟩
 rw [show ([[AV.int .i64 a, .int .i64 b],[.int .i64 a3, .int .i64 b3],[.int .i64 v1, .int .i64 v2]] : List (List AV)) = pl.map pC by rw [hpl]; rfl]
 have hpn : pl.length = 3:=by rw [hpl]; rfl
 clear hpl
 refine W.loop rfl (ι:={ q : Nat × NL ABlk // q.1 ≤ 3 ∧ lk q.2 144 = some { gen:=1,kind:=2,elem:=46,size:=45,inl:=false,rows:=[(⟨x0,x1,x2,x3,x4,ob,x6,x7,x8,x9⟩ : Msg).v] } ∧ lk q.2 848 = some (dG ds2) ∧ lk q.2 256 = some { gen:=1,kind:=2,elem:=46,size:=45,inl:=false,rows:=[(⟨w1,w2,x2,x3,x4,ob,x6,x7,x8,x9⟩ : Msg).v] } ∧ lk q.2 288 = some { gen:=g17,kind:=2,elem:=24,size:=1,inl:=false,rows:=[[.list 4 (n.map lkC)]] } })
   (fun q=>⟨230,[(3, .int .i64 a),(4, .int .i64 b),(5, .bool ct),(8, .ptr 144 1 0 0),(14, .ptr 848 1 0 0),(15, .ptr 256 1 0 0),(17, .ptr 288 g17 0 0),(64, .list 1 (nl.map nwR)),(65, .int .i64 2),(66, .int .i64 (i : Nat)),(113, .list 2 (pl.map pC)),(114, .int .i64 3),(115, .int .i64 (q.1.1 : Nat))],q.1.2⟩) (fun q=>3 - q.1.1)
   ⟨(0,_),by dsimp only; omega,by simp [lk_st,h144],by simp [lk_st,dG],by simp [lk_st,h256],by simp [lk_st,h288]⟩ (AS.le_of rfl ⟨rfl,rfl,rfl,rfl,rfl,rfl,rfl,rfl,rfl,rfl,rfl,rfl,rfl,trivial⟩ (fun _=>rfl)) ?_
 clear h144 h848 h256 h288 H cn1 cn2 ha3 hb3
 rintro ⟨⟨j,H⟩,hj,h144,h848,h256,h288⟩
 dsimp only at hj h144 h848 h256 h288 ⊢
 simp only [Msg.v,dG] at h144 h848 h256
 by_cases hj2 : j = 3
 rotate_left 1
 · have q3 : (j : Int) < 3:=by omega
   have hwj : IntKind.i64.wrap ((j : Int) + 1) = ((j + 1 : Nat) : Int):=w64 (by omega) (by omega)
   obtain ⟨y,hy⟩:=get_lt (l:=pl) (i:=j) (by omega)
   have hmy : (pl.map pC)[j]? = some (pC y):=by rw [List.getElem?_map,hy]; rfl
   have q4 : ¬ pl.length ≤ j:=by omega
   clear hy
   obtain ⟨p1,p2⟩:=y
   simp only [pC] at hmy
   obtain ⟨d8,hd8⟩:=hz.nt8 (by omega) (by omega)
   obtain ⟨d4,hd4⟩:=hz.nt4 (by omega) (by omega)
   have cD:=dlpS_eq d8 p1 p2
   have cE':=dlvS_eq d8.n p1 p2
   have cC:=cutS_eq d8 p1 p2 ct
   have cF:=fgtS_eq d4 p1
   have vd:=hz.dlv p1 p2
   have vc:=hz.cut p1 p2 ct
   have vf:=hz.fgt p1
   simp only [Nt8.n,Nt4.n,Nts.v,hd8,hd4] at cD cE' cC cF
   generalize dlvN n p1 p2 = R at cD cE' vd
   generalize cutN n p1 p2 ct = S at cC vc
   generalize fgtN n p1 = fl at cF vf
   obtain ⟨mm,u,e⟩:=R
   obtain ⟨w,f⟩:=S
   dsimp only at vd vc
   obtain ⟨du,hu⟩:=vd.nts (by omega) (by omega)
   obtain ⟨dw,hw⟩:=vc.nts (by omega) (by omega)
   obtain ⟨df,hf⟩:=vf.nts (by omega) (by omega)
   have cU:=snwS_eq du
   have cW:=snwS_eq dw
   have cX:=snwS_eq df
   have cM:=smeS_eq mm
   obtain ⟨y0,y1,y2,y3,y4,yo,y6,y7,y8,y9⟩:=mm
   simp only [Nts.v,hu,hw,hf,rN,rDl,Msg.v] at cD cE' cC cU cW cX cM
   repeat' (first | intro (hb : _ = _) | refine ZV ?_ | refine ZB tm sp ?_ | refine ZH ?_ ?_ | refine ZJ (by conv=>lhs; simp [q3,q4,hmy,h144,h848,h256,h288,cD,cE',cC,cF,cU,cW,cX,cM,hwj]) ?_ | refine ZA ?_ ?_)
   exact ⟨⟨(j + 1,_),by dsimp only; omega,by simp [lk_st,h144],by simp [lk_st,h848,dG],by simp [lk_st,h256],by simp [lk_st,h288]⟩,by dsimp only; omega,AS.le_of rfl ⟨rfl,rfl,rfl,rfl,rfl,rfl,rfl,rfl,rfl,rfl,rfl,rfl,rfl,trivial⟩ (fun _=>rfl)⟩
 subst hj2
 clear hpn
 obtain ⟨d8,hd8⟩:=hz.nt8 (by omega) (by omega)
 have cR:=rdyS_eq d8.n
 have cV:=vkS_eq d8.n
 have hrl : (rdyN n).length ≤ n.length:=by
   unfold rdyN
   split
   · exact Nat.zero_le _
   · unfold rdyL
     rw [List.length_map]
     exact List.length_filter_le _ _
 have hnl:=hz.1
 simp only [Nt8.n,Nts.v,hd8] at cR cV
 generalize rdyN n = rl at cR hrl
 have capr : rl.length ≤ 9223372036854775807:=by omega
 repeat' (first | intro (hb : _ = _) | refine ZV ?_ | refine ZB (id:=20) tm sp ?_ | refine ZB (id:=21) tm sp ?_ | refine ZB (id:=22) tm sp ?_ | refine ZB (id:=23) tm sp ?_ | refine ZB (id:=24) tm sp ?_ | refine ZB (id:=25) tm sp ?_ | refine ZB (id:=26) tm sp ?_ | refine ZB (id:=27) tm sp ?_ | refine ZB (id:=28) tm sp ?_ | refine ZB (id:=29) tm sp ?_ | refine ZB (id:=30) tm sp ?_ | refine ZB (id:=31) tm sp ?_ | refine ZB (id:=32) tm sp ?_ | refine ZH ?_ ?_ | refine ZJ (by conv=>lhs; simp [h144,h848,h256,h288,cR,cV,capr]) ?_ | refine ZA ?_ ?_)
 refine W.loop rfl (ι:={ q : Nat × NL ABlk // q.1 ≤ rl.length ∧ lk q.2 144 = some { gen:=1,kind:=2,elem:=46,size:=45,inl:=false,rows:=[(⟨x0,x1,x2,x3,x4,ob,x6,x7,x8,x9⟩ : Msg).v] } ∧ lk q.2 848 = some (dG ds2) ∧ lk q.2 256 = some { gen:=1,kind:=2,elem:=46,size:=45,inl:=false,rows:=[(⟨w1,w2,x2,x3,x4,ob,x6,x7,x8,x9⟩ : Msg).v] } })
   (fun q=>⟨230,[(3, .int .i64 a),(4, .int .i64 b),(5, .bool ct),(8, .ptr 144 1 0 0),(14, .ptr 848 1 0 0),(15, .ptr 256 1 0 0),(64, .list 1 (nl.map nwR)),(65, .int .i64 2),(66, .int .i64 (i : Nat)),(36, .list 2 (rl.map pC)),(37, .list 2 (rl.map pC)),(215, .int .i64 rl.length),(216, .int .i64 (q.1.1 : Nat))],q.1.2⟩) (fun q=>rl.length - q.1.1)
   ⟨(0,_),by simp,by simp [lk_st,h144],by simp [lk_st,h848,dG],by simp [lk_st,h256]⟩ (AS.le_of rfl ⟨rfl,rfl,rfl,rfl,rfl,rfl,rfl,rfl,rfl,rfl,rfl,rfl,rfl,trivial⟩ (fun _=>rfl)) ?_
 clear h144 h848 h256 h288 H cR cV
 rintro ⟨⟨j,H⟩,hj,h144,h848,h256⟩
 dsimp only at hj h144 h848 h256 ⊢
 simp only [Msg.v,dG] at h144 h848 h256
 by_cases hj2 : j = rl.length
 · subst hj2
   have q3 : ¬ (rl.length : Int) < rl.length:=by omega
   repeat' (first | intro (hb : _ = _) | refine ZV ?_ | refine ZB tm sp ?_ | refine ZH ?_ ?_ | refine ZJ (by conv=>lhs; simp [q3,hwi]) ?_ | refine ZA ?_ ?_)
   exact ⟨⟨(i + 1,ds2,_),by dsimp only; omega,by simp [lk_st,h144],by simp [lk_st,h848,dG],by simp [lk_st,h256]⟩,by dsimp only; omega,AS.le_of rfl ⟨rfl,rfl,rfl,rfl,rfl,rfl,rfl,rfl,rfl,trivial⟩ (fun _=>rfl)⟩
 have q3 : (j : Int) < rl.length:=by omega
 have hwj : IntKind.i64.wrap ((j : Int) + 1) = ((j + 1 : Nat) : Int):=w64 (by omega) (by omega)
 obtain ⟨y,hy⟩:=get_lt (l:=rl) (i:=j) (by omega)
 have hmy : (rl.map pC)[j]? = some (pC y):=by rw [List.getElem?_map,hy]; rfl
 have q4 : ¬ rl.length ≤ j:=by omega
 clear hy
 obtain ⟨p1,p2⟩:=y
 simp only [pC] at hmy
 repeat' (first | intro (hb : _ = _) | refine ZV ?_ | refine ZB tm sp ?_ | refine ZH ?_ ?_ | refine ZJ (by conv=>lhs; simp [q3,q4,hmy,hwj]) ?_ | refine ZA ?_ ?_)
 exact ⟨⟨(j + 1,_),by dsimp only; omega,by simp [lk_st,h144],by simp [lk_st,h848,dG],by simp [lk_st,h256]⟩,by dsimp only; omega,AS.le_of rfl ⟨rfl,rfl,rfl,rfl,rfl,rfl,rfl,rfl,rfl,rfl,rfl,rfl,rfl,trivial⟩ (fun _=>rfl)⟩
end
section
theorem TyFs.mono_mem {q q' : TypeId → List AV → Prop} : ∀ {ts : List TypeId} {xs : List AV},(∀ t ∈ ts, ∀ xs,q t xs → q' t xs) → TyFs q ts xs → TyFs q' ts xs
 | [],_,_,h=>h
 | t :: ts,_,hq,⟨a,b,e,h1,h2⟩=>⟨a,b,e,hq t (by simp) a h1,TyFs.mono_mem (fun t ht=>hq t (by simp [ht])) h2⟩
theorem TyR.lower {P : Program} : ∀ {m n : Nat} {t : TypeId} {xs : List AV},plainT P m t = true → TyR P n t xs → TyR P m t xs
 | 0,_,_,_,hp,_=>by simp [plainT] at hp
 | m + 1,0,_,_,_,h=>h.elim
 | m + 1,n + 1,t,xs,hp,h=>by
   rw [TyR] at h ⊢
   rw [plainT] at hp
   split at hp
   · rename_i hu; rw [hu] at h; exact h
   · rename_i hu; rw [hu] at h; exact h
   · rename_i hu; rw [hu] at h; exact h
   · rename_i e hu
     rw [hu] at h
     simp only [Bool.and_eq_true] at hp
     obtain ⟨rows,h1,h2,h3⟩:=h
     exact ⟨rows,h1,h2,fun r hr=>TyR.lower hp.2 (h3 r hr)⟩
   · rename_i fs hu
     rw [hu] at h
     simp only [Bool.and_eq_true,List.all_eq_true] at hp
     refine TyFs.mono_mem (fun t ht xs hx=>?_) h
     obtain ⟨f,hf,rfl⟩:=List.mem_map.1 ht
     exact TyR.lower (hp.2 f hf) hx
   · rename_i k e hu
     rw [hu] at h
     simp only [Bool.and_eq_true] at hp
     refine TyFs.mono_mem (fun t ht xs hx=>?_) h
     rw [List.eq_of_mem_replicate ht] at hx ⊢
     exact TyR.lower hp.2 hx
   · cases hp
theorem plMsg : plainT Tryz.prog 8 46 = true := by kernel_rfl
theorem shMsg {x : AV} (h : TyV Tryz.prog 12 46 x) : ∃ r : Raw 46,x = .agg r.1 := by
 simp only [TyV,Tryz.underlying46] at h
 obtain ⟨cs,rfl,h⟩:=h
 exact ⟨⟨cs,TyR.lower plMsg h⟩,rfl⟩
theorem shNet {x : AV} (h : TyV Tryz.prog 12 24 x) (hb : bdV 1048576 x = true) : ∃ r : RawN,x = .agg r.1 := by
 simp only [TyV,Tryz.underlying24] at h
 obtain ⟨cs,rfl,h⟩:=h
 exact ⟨⟨cs,h,hb⟩,rfl⟩
theorem shIntN {x : AV} (h : TyV Tryz.prog 12 3 x) : ∃ n : Int,x = .int .i64 n := by
 simp only [TyV,TyR,Tryz.underlying3,List.cons.injEq,and_true] at h
 obtain ⟨m,rfl,hm⟩:=h
 exact ⟨m,rfl⟩
theorem shBoolN {x : AV} (h : TyV Tryz.prog 12 4 x) : ∃ b : Bool,x = .bool b := by
 simp only [TyV,TyR,Tryz.underlying4,List.cons.injEq,and_true] at h
 exact h
theorem shSeeds {x : AV} (h : TyV Tryz.prog 12 25 x) : ∃ l : List UInt8,x = .list 1 (l.map byte) := by
 simp only [TyV,TyR,Tryz.underlying25,Tryz.underlying5,vc5,List.cons.injEq,and_true] at h
 obtain ⟨rows,rfl,hl,h⟩:=h
 have : ∀ rows : List (List AV),(∀ row ∈ rows, ∃ m,row = [AV.int .u8 m] ∧ (Lit.int .u8 m).wf = true) → ∃ l : List UInt8,rows = l.map byte:=by
   intro rows
   induction rows with
   | nil=>exact fun _=>⟨[],rfl⟩
   | cons r rs ih =>
     intro h
     obtain ⟨l,hl⟩:=ih fun row hr=>h row (by simp [hr])
     obtain ⟨m,rfl,hm⟩:=h r (by simp)
     simp only [Lit.wf,Bool.and_eq_true,decide_eq_true_eq] at hm
     have h1 : (0 : Int) ≤ m:=hm.1
     have h2 : m ≤ 255:=hm.2
     refine ⟨UInt8.ofNat m.toNat :: l, ?_⟩
     rw [List.map_cons,hl]
     congr 1
     simp only [byte,UInt8.toNat_ofNat',List.cons.injEq,AV.int.injEq,true_and,and_true]
     omega
 obtain ⟨l,rfl⟩:=this rows h
 exact ⟨l,rfl⟩
noncomputable def nmvS : SpecFn := mkS encNm fun _ => (.bool true,[])
theorem nmvS_ok : FnC Tryz.prog 3 nmvS := nmv_ok
theorem nmvS_eq (raw : RawN) (l : List UInt8) (m : Raw 46) (a b : Int) (c : Bool) : nmvS [.agg raw.1, .list 1 (l.map byte), .agg m.1, .int .i64 a, .int .i64 b, .bool c] [] = some (.bool true,[]) := mkS_eq (enc := encNm) (fun _ _ _ => rfl) ⟨raw,l,m,a,b,c⟩
end
end Go.Abs.Nx
