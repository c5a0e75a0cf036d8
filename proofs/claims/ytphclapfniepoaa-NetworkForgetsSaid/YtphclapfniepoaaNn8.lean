/- Networks: what is forgotten. Conditions: none. -/
import Derived.Test.YtphclapfniepoaaNn7
import Derived.Test.YtphclapfniepoaaAb9
import Derived.Test.YtphclapfniepoaaAb8
namespace Go.Abs.Nn
open Go Go.Proofs Go.Abs
set_option maxRecDepth 100000
set_option maxHeartbeats 4000000
set_option linter.unusedSimpArgs false
set_option linter.unusedVariables false
section
attribute [local simp] instA slice3A slice3C makeSliceA indexA
attribute [-simp] mkv
attribute [local simp] mkv_hd hdA_cons hdA_ob hdA_ob'
structure NfI where
 seeds : List UInt8
 node : Int
 h0 : 0 ≤ node
 h1 : node ≤ 255
def encNf (x : NfI) : List AV := [.list 1 (x.seeds.map byte), .int .u8 x.node]
theorem nfg_ok : FnC Try.prog 5 (mkS encNf fun _ => (.bool true,[])) := by
 obtain ⟨SM,hSM,hSMe⟩:=mdn_ex
 have sp : ∀ p ∈ ([(6,⟨1,sanS⟩),(7,⟨3,SM⟩),(14,⟨1,fgtS⟩),(15,⟨1,vkS⟩),(9,⟨1,dlpS⟩),(10,⟨1,smeS⟩)] : NL Spec),FnC Try.prog p.1 p.2.fn:=by
   simp only [List.mem_cons,List.not_mem_nil,or_false]
   rintro p (rfl | rfl | rfl | rfl | rfl | rfl)
   · exact san_ok
   · exact hSM
   · exact pfg_ok
   · exact vap2_ok
   · exact dlp_ok
   · exact sme_ok
 refine FnC.walk 5 (fn:=Try.f5) Try.func5 rfl (by kernel_rfl) fun x=>?_
 obtain ⟨seeds,node,n0,n1⟩:=x
 change W _ (Ret _ _ (.bool true) []) _ _ ⟨76,[(0, .list 1 (seeds.map byte)),(1, .int .u8 node)],[]⟩
 have cs:=sanS_eq
 obtain ⟨_,cm,l,ds,hv,rfl⟩:=hSMe seeds
 simp only [encNw,diceB] at cm
 obtain ⟨k,hk,rk⟩ : ∃ k : Int,IntKind.i64.wrap (node.tmod 4) = k ∧ R4 k:=⟨node.tmod 4,by
   rw [Int.tmod_eq_emod_of_nonneg n0]
   exact w64 (by omega) (by omega),by
   rw [Int.tmod_eq_emod_of_nonneg n0]
   exact ⟨by omega,by omega⟩⟩
 clear rk
 obtain ⟨d,hd⟩ : ∃ d : Nt4,d.ls = l:=⟨⟨l,by have:=hv.len; omega,hv.okK (by omega)⟩,rfl⟩
 have cF:=fgtS_eq d k
 obtain ⟨vx,hx⟩:=forgets hv (by omega) k
 simp only [Nt4.n,Nts.v,hd] at cF
 generalize fgtN l k = x at cF vx hx
 obtain ⟨dn8,hdn⟩:=hv.n (by omega) (by omega)
 obtain ⟨dx8,hdx⟩:=vx.n (by omega) (by omega)
 have cV:=vkS_eq dx8.n
 have cL:=dlpS_eq dn8
 have cX:=dlpS_eq dx8
 simp only [Nt8.n,Nts.v,hdx,vx.valid (show 11 ≤ 4096 by omega)] at cV
 rw [hdn] at cL
 rw [hdx] at cX
 clear hSMe
 repeat' (first | intro (hb : _ = _) | refine ZV ?_ | refine ZB (id:=0) tm sp ?_ | refine ZB (id:=1) tm sp ?_ | refine ZB (id:=2) tm sp ?_ | refine ZB (id:=3) tm sp ?_ | refine ZB (id:=4) tm sp ?_ | refine ZB (id:=5) tm sp ?_ | refine ZB (id:=6) tm sp ?_ | refine ZB (id:=7) tm sp ?_ | refine ZB (id:=8) tm sp ?_ | refine ZH ?_ ?_ | refine ZJ (by conv=>lhs; simp [cs,cm,hk,cF,cV]) ?_ | refine ZA ?_ ?_)
 refine W.loop rfl (ι:={ q : Nat × NL ABlk // q.1 ≤ 4 ∧ lk q.2 96 = some { gen:=1,kind:=2,elem:=26,size:=1,inl:=false,rows:=[[.list 4 (l.map lkC)]] } ∧ lk q.2 144 = some { gen:=1,kind:=2,elem:=26,size:=1,inl:=false,rows:=[[.list 4 (x.map lkC)]] } })
   (fun q=>⟨76,[(5, .ptr 96 1 0 0),(7, .int .i64 k),(8, .ptr 144 1 0 0),(9, .int .i64 (q.1.1 : Nat))],q.1.2⟩) (fun q=>4 - q.1.1)
   ⟨(0,_),by dsimp only; omega,by simp [lk,lk_st],by simp [lk,lk_st]⟩ (AS.le_of rfl ⟨rfl,rfl,rfl,rfl,trivial⟩ (fun _=>rfl)) ?_
 clear cs cm hk cF cV
 rintro ⟨⟨i,H⟩,hi,h5,h8⟩
 dsimp only at hi h5 h8 ⊢
 by_cases hi4 : i = 4
 · subst hi4
   repeat' (first | intro (hb : _ = _) | refine ZV ?_ | refine ZB tm sp ?_ | refine ZH ?_ ?_ | refine ZJ (by conv=>lhs; simp) ?_ | refine ZA ?_ ?_)
   all_goals (first | refine Yd ?_ | refine Ye ?_)
   all_goals (first | rfl | (simp; done) | (simp_all; done) | (simp_all; omega))
 have q1 : (i : Int) < 4:=by omega
 have hw : IntKind.i64.wrap ((i : Int) + 1) = ((i + 1 : Nat) : Int):=w64 (by omega) (by omega)
 repeat' (first | intro (hb : _ = _) | refine ZV ?_ | refine ZB (id:=9) tm sp ?_ | refine ZB (id:=10) tm sp ?_ | refine ZB (id:=11) tm sp ?_ | refine ZH ?_ ?_ | refine ZJ (by conv=>lhs; simp [q1]) ?_ | refine ZA ?_ ?_)
 refine W.loop rfl (ι:={ q : Nat × NL ABlk // q.1 ≤ 4 ∧ lk q.2 96 = some { gen:=1,kind:=2,elem:=26,size:=1,inl:=false,rows:=[[.list 4 (l.map lkC)]] } ∧ lk q.2 144 = some { gen:=1,kind:=2,elem:=26,size:=1,inl:=false,rows:=[[.list 4 (x.map lkC)]] } })
   (fun q=>⟨76,[(5, .ptr 96 1 0 0),(7, .int .i64 k),(8, .ptr 144 1 0 0),(9, .int .i64 (i : Nat)),(10, .int .i64 (q.1.1 : Nat))],q.1.2⟩) (fun q=>4 - q.1.1)
   ⟨(0,_),by dsimp only; omega,by simp [lk_st,h5],by simp [lk_st,h8]⟩ (AS.le_of rfl ⟨rfl,rfl,rfl,rfl,rfl,trivial⟩ (fun _=>rfl)) ?_
 clear h5 h8
 rintro ⟨⟨j,H⟩,hj,h5,h8⟩
 dsimp only at hj h5 h8 ⊢
 by_cases hj4 : j = 4
 · subst hj4
   repeat' (first | intro (hb : _ = _) | refine ZV ?_ | refine ZB tm sp ?_ | refine ZH ?_ ?_ | refine ZJ (by conv=>lhs; simp [hw]) ?_ | refine ZA ?_ ?_)
   exact ⟨⟨(i + 1,_),by dsimp only; omega,by simp [lk_st,h5],by simp [lk_st,h8]⟩,by dsimp only; omega,AS.le_of rfl ⟨rfl,rfl,rfl,rfl,trivial⟩ (fun _=>rfl)⟩
 have q2 : (j : Int) < 4:=by omega
 have hw2 : IntKind.i64.wrap ((j : Int) + 1) = ((j + 1 : Nat) : Int):=w64 (by omega) (by omega)
 have cL:=cL i j
 have cX:=cX i j
 obtain ⟨x1,x2⟩:=hx i j
 generalize dlvN l i j = R at cL x2
 generalize dlvN x i j = T at cX x1 x2
 obtain ⟨m,L,e⟩:=R
 obtain ⟨p,M,f⟩:=T
 dsimp only at x1 x2
 obtain ⟨g1,g2,g3,g4,g5,o,g6,g7,g8,g9⟩:=m
 cases hik : ((i : Int) == k) with
 | true =>
   have x1:=x1 (.inl (by simpa using hik))
   subst x1
   obtain ⟨u1,u2,u3,u4,u5,o',u6,u7,u8,u9⟩:=p
   simp only [rDl,Msg.v] at cL cX
   repeat' (first | intro (hb : _ = _) | refine ZV ?_ | refine ZB tm sp ?_ | refine ZH ?_ ?_ | refine ZJ (by conv=>lhs; simp [q2,h5,h8,cL,cX,hik,hw2]) ?_ | refine ZA ?_ ?_)
   exact ⟨⟨(j + 1,_),by dsimp only; omega,by simp [lk_st,h5],by simp [lk_st,h8]⟩,by dsimp only; omega,AS.le_of rfl ⟨rfl,rfl,rfl,rfl,rfl,trivial⟩ (fun _=>rfl)⟩
 | false =>
   cases hjk : ((j : Int) == k) with
   | true =>
     have x1:=x1 (.inr (by simpa using hjk))
     subst x1
     obtain ⟨u1,u2,u3,u4,u5,o',u6,u7,u8,u9⟩:=p
     simp only [rDl,Msg.v] at cL cX
     repeat' (first | intro (hb : _ = _) | refine ZV ?_ | refine ZB tm sp ?_ | refine ZH ?_ ?_ | refine ZJ (by conv=>lhs; simp [q2,h5,h8,cL,cX,hik,hjk,hw2]) ?_ | refine ZA ?_ ?_)
     exact ⟨⟨(j + 1,_),by dsimp only; omega,by simp [lk_st,h5],by simp [lk_st,h8]⟩,by dsimp only; omega,AS.le_of rfl ⟨rfl,rfl,rfl,rfl,rfl,trivial⟩ (fun _=>rfl)⟩
   | false =>
     obtain ⟨y1,y2⟩:=x2 (by simpa using hik) (by simpa using hjk)
     subst y1 y2
     have cSm:=smeS_eq ⟨g1,g2,g3,g4,g5,o,g6,g7,g8,g9⟩
     simp only [rDl,Msg.v] at cL cX cSm
     repeat' (first | intro (hb : _ = _) | refine ZV ?_ | refine ZB tm sp ?_ | refine ZH ?_ ?_ | refine ZJ (by conv=>lhs; simp [q2,h5,h8,cL,cX,hik,hjk,hw2,cSm]) ?_ | refine ZA ?_ ?_)
     exact ⟨⟨(j + 1,_),by dsimp only; omega,by simp [lk_st,h5],by simp [lk_st,h8]⟩,by dsimp only; omega,AS.le_of rfl ⟨rfl,rfl,rfl,rfl,rfl,trivial⟩ (fun _=>rfl)⟩
end
section
attribute [local simp] instA slice3A slice3C makeSliceA indexA
attribute [-simp] mkv
attribute [local simp] mkv_hd hdA_cons hdA_ob hdA_ob'
structure NaI where
 seeds : List UInt8
 a : Int
 b : Int
 c : Int
 d : Int
 ha : 0 ≤ a ∧ a ≤ 255
 hb : 0 ≤ b ∧ b ≤ 255
 hc : 0 ≤ c ∧ c ≤ 255
 hd : 0 ≤ d ∧ d ≤ 255
end
section
theorem shU8 {x : AV} (h : TyV Try.prog 9 5 x) : ∃ n : Int,(0 ≤ n ∧ n ≤ 255) ∧ x = .int .u8 n := by
 simp only [TyV,TyR,Try.underlying5,List.cons.injEq,and_true] at h
 obtain ⟨m,rfl,hm⟩:=h
 simp only [Lit.wf,Bool.and_eq_true,decide_eq_true_eq] at hm
 exact ⟨m,⟨hm.1,hm.2⟩,rfl⟩
theorem shSeeds {x : AV} (h : TyV Try.prog 9 22 x) : ∃ l : List UInt8,x = .list 1 (l.map byte) := by
 simp only [TyV,TyR,Try.underlying22,Try.underlying5,vc5,List.cons.injEq,and_true] at h
 obtain ⟨rows,rfl,hl,h⟩:=h
 have : ∀ rows : List (List AV),(∀ row ∈ rows, ∃ m,row = [AV.int .u8 m] ∧ (Lit.int .u8 m).wf = true) → ∃ l : List UInt8,rows = l.map byte:=by
   intro rows
   induction rows with
   | nil=>exact fun _=>⟨[],rfl⟩
   | cons r rs ih =>
     intro h
     obtain ⟨l,hl⟩:=ih fun row hr=>h row (by simp [hr])
     obtain ⟨m,rfl,hm⟩:=h r (by simp)
     simp only [Lit.wf,Bool.and_eq_true,decide_eq_true_eq] at hm
     have h1 : (0 : Int) ≤ m:=hm.1
     have h2 : m ≤ 255:=hm.2
     refine ⟨UInt8.ofNat m.toNat :: l, ?_⟩
     rw [List.map_cons,hl]
     congr 1
     simp only [byte,UInt8.toNat_ofNat',List.cons.injEq,AV.int.injEq,true_and,and_true]
     omega
 obtain ⟨l,rfl⟩:=this rows h
 exact ⟨l,rfl⟩
noncomputable def nfgS : SpecFn := mkS encNf fun _ => (.bool true,[])
theorem nfgS_ok : FnC Try.prog 5 nfgS := nfg_ok
theorem nfgS_eq (l : List UInt8) (n : Int) (h : 0 ≤ n ∧ n ≤ 255) : nfgS [.list 1 (l.map byte), .int .u8 n] [] = some (.bool true,[]) := mkS_eq (enc := encNf) (fun _ _ _ => rfl) ⟨l,n,h.1,h.2⟩
end
end Go.Abs.Nn
