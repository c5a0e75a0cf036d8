/- The theorem of tokens: the walk through the statement. Conditions: none. -/
import Derived.Test.YtmcbpehpogjmoaaNp9
import Derived.Test.YtmcbpehpogjmoaaAb8
namespace Go.Abs.Np
open Go Go.Proofs Go.Abs
set_option maxRecDepth 100000
set_option maxHeartbeats 4000000
set_option linter.unusedSimpArgs false
set_option linter.unusedVariables false
section
attribute [local simp] instA slice3A slice3C
attribute [-simp] mkv
attribute [local simp] mkv_hd hdA_cons hdA_ob hdA_ob'
abbrev Ops := {l : List UInt8 // l.length ≤ maxLen}
noncomputable def griS : SpecFn := mkS (fun x : Ops => [.list 1 (x.1.map byte)]) fun _ => (.bool true,[])
theorem griS_eq (x : Ops) : griS [.list 1 (x.1.map byte)] [] = some (.bool true,[]) := mkS_eq (enc := fun x : Ops => [AV.list 1 (x.1.map byte)]) (fun _ _ _ => rfl) x
noncomputable def mkeN : SpecFn := nS Try.prog [30,60] mkeS
theorem mkeN_ok : FnC Try.prog 5 mkeN := mkep_ok.nrm _
theorem mkeN_eq (d : Tks) (id v : Int) (h1 : (Lit.int .u64 id).wf = true) (h2 : (Lit.int .i64 v).wf = true) : mkeN [d.v, .agg (dvC id v)] [] = some (rT (mkeL d (dvO id v h1 h2)).1 (mkeL d (dvO id v h1 h2)).2.1 (mkeL d (dvO id v h1 h2)).2.2,[]) := by
 rw [mkeN,nS_eq]
 simp only [nrmL]
 rw [show nrmV Try.prog 30 d.v = d.v from tks_nrmV _ _,show nrmV Try.prog 60 (.agg (dvC id v)) = .agg (dvO id v h1 h2).cells by rw [nrmV,dv_nrm]; rfl]
 exact mkeS_eq d _
noncomputable def putoN : SpecFn := nS Try.prog [30,41,60] putoS
theorem putoN_ok : FnC Try.prog 12 putoN := putop_ok.nrm _
theorem putoN_eq (d : Tks) (i id v : Int) (h1 : (Lit.int .u64 id).wf = true) (h2 : (Lit.int .i64 v).wf = true) : putoN [d.v, .int .u64 i, .agg (dvC id v)] [] = some (rT (putoL d i (dvO id v h1 h2)).1 (putoL d i (dvO id v h1 h2)).2.1 (putoL d i (dvO id v h1 h2)).2.2,[]) := by
 rw [putoN,nS_eq]
 simp only [nrmL]
 rw [show nrmV Try.prog 30 d.v = d.v from tks_nrmV _ _,show nrmV Try.prog 41 (.int .u64 i) = .int .u64 i by simp only [nrmV],show nrmV Try.prog 60 (.agg (dvC id v)) = .agg (dvO id v h1 h2).cells by rw [nrmV,dv_nrm]; rfl]
 exact putoS_eq d _ _
theorem tmod_nat {x : Int} {m : Nat} (hx : 0 ≤ x) (hm : 0 < m) : ∃ k : Nat,k < m ∧ x.tmod (m : Int) = (k : Int) := by
 obtain ⟨a,rfl⟩:=Int.eq_ofNat_of_zero_le hx
 exact ⟨a % m,Nat.mod_lt _ hm,rfl⟩
theorem grN : nrmL Try.prog (leafs Try.prog 37) [.int .i64 0, .nils, .int .i64 0, .nils, .int .i64 0, .nils, .int .i64 0, .nils, .nils, .int .i64 0, .int .i64 0] = [.int .i64 0, .list 41 [], .int .i64 0, .list 41 [], .int .i64 0, .list 41 [], .int .i64 0, .list 41 [], .list 4 [], .int .i64 0, .int .i64 0] := by kernel_rfl
def zB (a b : Int) : ABlk := { gen := 1,kind := 2,elem := 37,size := 11,rows := [[.int .i64 0, .list 41 [], .int .i64 a, .list 41 [], .int .i64 b, .list 41 [], .int .i64 0, .list 41 [], .list 4 [], .int .i64 0, .int .i64 0]] }
noncomputable def lI (k : Nat) : List Tok := if k = 0 then [] else if k = 1 then l1I else l2I
structure TI (n : Nat) where
 i : Nat
 g : Grd
 H : NL ABlk
 hi : i ≤ n
 inv : GInv g
 v0 : 0 ≤ g.v0 ∧ g.v0 ≤ i
 v1 : 0 ≤ g.v1 ∧ g.v1 ≤ i
 g1 : lk H 496 = some (grB 1 g)
theorem post_seq {P : Program} {Q : AS → Prop} {x : Code} {f1 f2 : List Fr} (k : ∀ e σ,post P Q f1 e σ → post P Q f2 e σ) : ∀ e σ,post P Q (.seq x :: f1) e σ → post P Q (.seq x :: f2) e σ := fun e σ h => by
 cases e with
 | normal=>exact WP.mono h fun e σ h=>k e σ h
 | exit i=>exact k (.exit i) σ h
 | goto i=>exact k (.goto i) σ h
 | ret=>exact k .ret σ h
 | panic c=>exact k (.panic c) σ h
 | outgrown=>exact k .outgrown σ h
theorem W.cutB2 {P : Program} {Q : AS → Prop} {a x1 x2 y : Code} {fs : List Fr} {σ : AS} {i : Nat} (M : AS → Prop) (h1 : W P Q a (.seq x1 :: .seq x2 :: .blk i :: .loop M :: fs) σ) (h2 : ∀ σ',M σ' → W P Q y fs σ') : W P Q a (.seq x1 :: .seq x2 :: .blk i :: .seq y :: fs) σ := by
 have key : ∀ e σ,post P Q (.blk i :: .loop M :: fs) e σ → post P Q (.blk i :: .seq y :: fs) e σ:=fun e σ h=>by
   cases e with
   | normal=>exact (h2 σ h).h
   | exit j =>
     have h : (if j = i then post P Q (.loop M :: fs) .normal σ else post P Q (.loop M :: fs) (.exit j) σ):=h
     show (if j = i then post P Q (.seq y :: fs) .normal σ else post P Q (.seq y :: fs) (.exit j) σ)
     split at h
     · rw [if_pos ‹_›]; exact (h2 σ h).h
     · rw [if_neg ‹_›]; exact h
   | _=>exact h
 exact ⟨h1.h.mono (post_seq (post_seq key))⟩
theorem post_loop {P : Program} {Q : AS → Prop} {J : AS → Prop} {f1 f2 : List Fr} (k : ∀ e σ,post P Q f1 e σ → post P Q f2 e σ) : ∀ e σ,post P Q (.loop J :: f1) e σ → post P Q (.loop J :: f2) e σ := fun e σ h => by
 cases e with
 | normal=>exact h
 | exit i=>exact k (.exit i) σ h
 | goto i=>exact k (.goto i) σ h
 | ret=>exact k .ret σ h
 | panic c=>exact k (.panic c) σ h
 | outgrown=>exact k .outgrown σ h
theorem W.cutL {P : Program} {Q : AS → Prop} {a y : Code} {J : AS → Prop} {fs : List Fr} {σ : AS} {i : Nat} (M : AS → Prop) (h1 : W P Q a (.loop J :: .blk i :: .loop M :: fs) σ) (h2 : ∀ σ',M σ' → W P Q y fs σ') : W P Q a (.loop J :: .blk i :: .seq y :: fs) σ := by
 have key : ∀ e σ,post P Q (.blk i :: .loop M :: fs) e σ → post P Q (.blk i :: .seq y :: fs) e σ:=fun e σ h=>by
   cases e with
   | normal=>exact (h2 σ h).h
   | exit j =>
     have h : (if j = i then post P Q (.loop M :: fs) .normal σ else post P Q (.loop M :: fs) (.exit j) σ):=h
     show (if j = i then post P Q (.seq y :: fs) .normal σ else post P Q (.seq y :: fs) (.exit j) σ)
     split at h
     · rw [if_pos ‹_›]; exact (h2 σ h).h
     · rw [if_neg ‹_›]; exact h
   | _=>exact h
 exact ⟨h1.h.mono (post_loop key)⟩
theorem div_b {o : Nat} (ho : o < 256) (d : Nat) (hd : 0 < d) : ∃ k : Nat,IntKind.i64.wrap ((o : Int) / (d : Int)) = (k : Int) ∧ k ≤ 255 := by
 refine ⟨o / d, ?_,Nat.le_trans (Nat.div_le_self _ _) (by omega)⟩
 have h:=Nat.div_le_self o d
 rw [← Int.natCast_ediv]
 generalize o / d = q at *
 exact w64 (by omega) (by omega)
theorem wf_sm {x : Int} (h1 : 0 ≤ x) (h2 : x ≤ 1000) : (Lit.int .i64 x).wf = true := by
 simp only [Lit.wf,IntKind.min,IntKind.max,IntKind.signed,IntKind.bits]
 simp
 omega
theorem N3_of {n : Nat} (h : n < 3) : (n : Int) = 0 ∨ (n : Int) = 1 ∨ (n : Int) = 2 := by omega
theorem N2_of {n : Nat} (h : n < 2) : (n : Int) = 0 ∨ (n : Int) = 1 := by omega
theorem byte_lt (b : UInt8) : b.toNat < 256 := b.toNat_lt
theorem byte_w (b : UInt8) : IntKind.i64.wrap (b.toNat : Int) = (b.toNat : Int) := w64 (by omega) (by have := byte_lt b; omega)
theorem gri_ok : FnC Try.prog 3 griS := by
 obtain ⟨SS,hSS,hse⟩:=saneT_ex
 have sp : ∀ p ∈ ([(4,⟨1,SS⟩),(6,⟨1,obS⟩),(5,⟨1,mkeN⟩),(7,⟨1,wntS⟩),(9,⟨1,pinS⟩),(11,⟨1,hoS⟩),(12,⟨1,putoN⟩),(8,⟨3,gsnS⟩),(10,⟨3,gunS⟩),(13,⟨3,gdlS⟩),(14,⟨3,ggdS⟩)] : NL Spec),FnC Try.prog p.1 p.2.fn:=by
   simp only [List.mem_cons,List.not_mem_nil,or_false]
   rintro p (rfl | rfl | rfl | rfl | rfl | rfl | rfl | rfl | rfl | rfl | rfl)
   · exact hSS
   · exact ob_ok
   · exact mkeN_ok
   · exact wntp_ok
   · exact pinp_ok
   · exact ho_ok
   · exact putoN_ok
   · exact gsn_ok
   · exact gun_ok
   · exact gdl_ok
   · exact ggd_ok
 refine FnC.walk 3 (fn:=Try.f3) Try.func3 rfl (by kernel_rfl) fun x=>?_
 obtain ⟨ops,hops⟩:=x
 change W _ (Ret _ _ (.bool true) []) _ _ ⟨273,[(0, .list 1 (ops.map byte))],[]⟩
 have cap : ops.length ≤ 9223372036854775807:=by simpa [maxLen] using hops
 repeat' (first | intro (hb : _ = _) | refine ZV ?_ | refine ZB tm sp ?_ | refine ZH ?_ ?_ | refine ZJ (by conv=>lhs; simp [hse]) ?_ | refine ZA ?_ ?_)
 obtain ⟨LG,hLG⟩ : ∃ L,leafs Try.prog 37 = L:=⟨_,rfl⟩
 refine W.nrmB 496 LG (by rfl) rfl ?_
 have hnm:=grN
 rw [hLG] at hnm
 simp only [List.map_cons,List.map_nil,hnm]
 refine W.loop rfl (ι:={ p : Nat × NL ABlk // p.1 ≤ 3 ∧ lk p.2 496 = some (zB (if 2 ≤ p.1 then 1 else 0) (if 3 ≤ p.1 then 2 else 0)) })
   (fun p=>⟨273,[(0, .list 1 (ops.map byte)),(3, .ptr 496 1 0 0),(31, .int .i64 (p.1.1 : Nat))],p.1.2⟩) (fun p=>3 - p.1.1)
   ⟨(0,_),by simp,rfl⟩ (AS.le_of rfl ⟨rfl,rfl,rfl,trivial⟩ (fun _=>rfl)) ?_
 rintro ⟨⟨k,h⟩,hk,h0⟩
 dsimp only at hk h0 ⊢
 rcases (show k = 3 ∨ k = 0 ∨ k = 1 ∨ k = 2 by omega) with rfl | rfl | rfl | rfl
 rotate_left
 · simp [zB] at h0
   repeat' (first | intro (hb : _ = _) | refine ZV ?_ | refine ZB tm sp ?_ | refine ZH ?_ ?_ | refine ZJ (by conv=>lhs; simp [h0]) ?_ | refine ZA ?_ ?_)
   exact ⟨⟨(1,_),by dsimp only; omega,by simp [lk_st,h0,zB]⟩,by dsimp only; omega,AS.le_of rfl ⟨rfl,rfl,rfl,trivial⟩ (fun _=>rfl)⟩
 · simp [zB] at h0
   repeat' (first | intro (hb : _ = _) | refine ZV ?_ | refine ZB tm sp ?_ | refine ZH ?_ ?_ | refine ZJ (by conv=>lhs; simp [h0]) ?_ | refine ZA ?_ ?_)
   exact ⟨⟨(2,_),by dsimp only; omega,by simp [lk_st,h0,zB]⟩,by dsimp only; omega,AS.le_of rfl ⟨rfl,rfl,rfl,trivial⟩ (fun _=>rfl)⟩
 · simp [zB] at h0
   repeat' (first | intro (hb : _ = _) | refine ZV ?_ | refine ZB tm sp ?_ | refine ZH ?_ ?_ | refine ZJ (by conv=>lhs; simp [h0]) ?_ | refine ZA ?_ ?_)
   exact ⟨⟨(3,_),by dsimp only; omega,by simp [lk_st,h0,zB]⟩,by dsimp only; omega,AS.le_of rfl ⟨rfl,rfl,rfl,trivial⟩ (fun _=>rfl)⟩
 simp [zB] at h0
 repeat' (first | intro (hb : _ = _) | refine ZV ?_ | refine ZB tm sp ?_ | refine ZH ?_ ?_ | refine ZJ (by conv=>lhs; simp [h0]) ?_ | refine ZA ?_ ?_)
 refine W.loop rfl (ι:={ p : Nat × NL ABlk // p.1 ≤ 2 ∧ lk p.2 496 = some (grB 1 ⟨[],lI p.1,[],[],[],0,0⟩) })
   (fun p=>⟨273,[(0, .list 1 (ops.map byte)),(3, .ptr 496 1 0 0),(42, .int .i64 (p.1.1 : Nat))],p.1.2⟩) (fun p=>2 - p.1.1)
   ⟨(0,_),by simp,h0⟩ (AS.le_of rfl ⟨rfl,rfl,rfl,trivial⟩ (fun _=>rfl)) ?_
 clear h0
 rintro ⟨⟨k,h⟩,hk,h0⟩
 dsimp only at hk h0 ⊢
 rcases (show k = 2 ∨ k = 0 ∨ k = 1 by omega) with rfl | rfl | rfl
 rotate_left
 · have cm:=mkeN_eq ⟨1,[],by simp⟩ (idG 0) 0 wz0 (by decide)
   have ob:=obS_eq (k:=0) (.inl rfl)
   rw [show dvO (idG 0) 0 wz0 _ = dv0 0 wz0 from rfl,mke_1] at cm
   change obS [.int .i64 0] [] = some (.int .u64 72057594037927937,[]) at ob
   change mkeN [_, .agg (dvC 72057594037927937 0)] _ = _ at cm
   simp only [Tks.v,rT,dvC,List.map_nil] at cm
   simp only [grB,Grd.row,lI,if_true,List.map_nil] at h0
   repeat' (first | intro (hb : _ = _) | refine ZV ?_ | refine ZB tm sp ?_ | refine ZH ?_ ?_ | refine ZJ (by conv=>lhs; simp [h0,ob,cm]) ?_ | refine ZA ?_ ?_)
   exact ⟨⟨(1,_),by dsimp only; omega,by simp [lk_st,h0,grB,Grd.row,lI]⟩,by dsimp only; omega,AS.le_of rfl ⟨rfl,rfl,rfl,trivial⟩ (fun _=>rfl)⟩
 · have cm:=mkeN_eq ⟨1,l1I,by have:=l1_ok.len; omega⟩ (idG 1) 0 wz1 (by decide)
   have ob:=obS_eq (k:=1) (.inr rfl)
   rw [show dvO (idG 1) 0 wz1 _ = dv0 1 wz1 from rfl,mke_2] at cm
   change obS [.int .i64 1] [] = some (.int .u64 72057594037927938,[]) at ob
   change mkeN [_, .agg (dvC 72057594037927938 0)] _ = _ at cm
   simp only [Tks.v,rT,dvC,List.map_nil] at cm
   rw [show lI 1 = l1I from rfl] at h0
   simp only [grB,Grd.row,List.map_nil] at h0
   repeat' (first | intro (hb : _ = _) | refine ZV ?_ | refine ZB tm sp ?_ | refine ZH ?_ ?_ | refine ZJ (by conv=>lhs; simp [h0,ob,cm]) ?_ | refine ZA ?_ ?_)
   exact ⟨⟨(2,_),by dsimp only; omega,by simp [lk_st,h0,grB,Grd.row,lI]⟩,by dsimp only; omega,AS.le_of rfl ⟨rfl,rfl,rfl,trivial⟩ (fun _=>rfl)⟩
 have g1 : lk h 496 = some (grB 1 g0):=h0
 clear h0
 repeat' (first | intro (hb : _ = _) | refine ZV ?_ | refine ZB tm sp ?_ | refine ZH ?_ ?_ | refine ZJ (by conv=>lhs; simp) ?_ | refine ZA ?_ ?_)
 obtain ⟨n,hn⟩ : ∃ n,min ops.length 120 = n:=⟨_,rfl⟩
 refine W.loop rfl (ι:=TI n) (fun x=>⟨273,[(0, .list 1 (ops.map byte)),(3, .ptr 496 1 0 0),(8, .int .i64 (x.i : Nat))],x.H⟩) (fun x=>n - x.i)
   ⟨0,g0,h,by omega,g0_inv,⟨by decide,by decide⟩,⟨by decide,by decide⟩,g1⟩ (AS.le_of rfl ⟨rfl,rfl,rfl,trivial⟩ (fun _=>rfl)) ?_
 rintro ⟨i,g,h,hi,inv,hv0,hv1,g1⟩
 dsimp only
 by_cases hie : i = n
 · subst hie
   clear hv0 hv1
   have hcnd : (decide ((i : Int) < ops.length) && decide ((i : Int) < 120)) = false:=by
     rw [Bool.and_eq_false_iff]
     simp only [decide_eq_false_iff_not]
     omega
   refine W.cutL (fun σ' => ∃ H,lk H 496 = some (grB 1 g) ∧ AS.le ⟨273,[(3, .ptr 496 1 0 0)],H⟩ σ') ?_ ?_
   · repeat' (first | intro (hb : _ = _) | refine ZV ?_ | refine ZB tm sp ?_ | refine ZH ?_ ?_ | refine ZJ (by conv=>lhs; simp [cap]) ?_ | refine ZA ?_ ?_)
     all_goals first
       | exact ⟨_,g1,AS.le_of rfl ⟨rfl,trivial⟩ (fun _=>rfl)⟩
       | (exfalso; simp_all; done)
       | (exfalso; simp_all; omega)
   clear hcnd hn hi g1 cap
   rintro σ' ⟨h',g1,hle⟩
   refine W.weak hle ?_
   clear hle h
   repeat' (first | intro (hb : _ = _) | refine ZV ?_ | refine ZB tm sp ?_ | refine ZH ?_ ?_ | refine ZJ (by conv=>lhs; simp) ?_ | refine ZA ?_ ?_)
   refine W.loop rfl (ι:={ p : Nat × Grd × NL ABlk // p.1 ≤ 60 ∧ GInv p.2.1 ∧ p.2.1.Phi ≤ 60 - p.1 ∧ lk p.2.2 496 = some (grB 1 p.2.1) })
     (fun p=>⟨273,[(3, .ptr 496 1 0 0),(20, .int .i64 (p.1.1 : Nat))],p.1.2.2⟩) (fun p=>60 - p.1.1)
     ⟨(0,g,h'),by dsimp only; omega,inv,by have:=inv.bound; dsimp only; omega,g1⟩ (AS.le_of rfl ⟨rfl,rfl,trivial⟩ (fun _=>rfl)) ?_
   clear inv g1
   clear g h'
   rintro ⟨⟨r,g,h⟩,hr,inv,hphi,g1⟩
   dsimp only at hr inv hphi g1 ⊢
   by_cases hr60 : r = 60
   · subst hr60
     obtain ⟨z1,z2⟩:=inv.fin (by omega)
     have hlen:=fun p hp=>inv.bas.len (n:=p) hp
     clear inv hphi hr
     obtain ⟨a1,a2,a3,es,ls,v0,v1⟩:=g
     dsimp only at z1
     subst z1
     simp only [grB,Grd.row,List.map_nil] at g1
     repeat' (first | intro (hb : _ = _) | refine ZV ?_ | refine ZB tm sp ?_ | refine ZH ?_ ?_ | refine ZJ (by conv=>lhs; simp) ?_ | refine ZA ?_ ?_)
     refine W.loop rfl (ι:={ p : Nat × NL ABlk // p.1 ≤ 3 ∧ lk p.2 496 = some (grB 1 ⟨a1,a2,a3,es,[],v0,v1⟩) })
       (fun p=>⟨273,[(3, .ptr 496 1 0 0),(242, .int .i64 (p.1.1 : Nat))],p.1.2⟩) (fun p=>3 - p.1.1)
       ⟨(0,h),by simp,g1⟩ (AS.le_of rfl ⟨rfl,rfl,trivial⟩ (fun _=>rfl)) ?_
     clear g1
     rintro ⟨⟨q,h⟩,hq,g1⟩
     dsimp only at hq g1 ⊢
     have g1':=g1
     simp only [grB,Grd.row,List.map_nil] at g1
     rcases (show q = 3 ∨ q = 0 ∨ q = 1 ∨ q = 2 by omega) with rfl | rfl | rfl | rfl
     · repeat' (first | intro (hb : _ = _) | refine ZV ?_ | refine ZB tm sp ?_ | refine ZH ?_ ?_ | refine ZJ (by conv=>lhs; simp [g1]) ?_ | refine ZA ?_ ?_)
       exact Yr
     · have zz:=z2 0 (by unfold N3; omega)
       have hl9:=hlen 0 (by unfold N3; omega)
       simp only [Grd.tk,Int.reduceEq,reduceIte] at zz hl9
       repeat' (first | intro (hb : _ = _) | refine ZV ?_ | refine ZB tm sp ?_ | refine ZH ?_ ?_ | refine ZJ (by conv=>lhs; simp [g1]) ?_ | refine ZA ?_ ?_)
       refine W.loop rfl (ι:={ p : Nat × NL ABlk // p.1 ≤ a1.length ∧ lk p.2 496 = some (grB 1 ⟨a1,a2,a3,es,[],v0,v1⟩) })
         (fun p=>⟨273,[(3, .ptr 496 1 0 0),(242, .int .i64 0),(251, .list 41 (a1.map Tok.c)),(252, .int .i64 a1.length),(253, .int .i64 (p.1.1 : Nat))],p.1.2⟩) (fun p=>a1.length - p.1.1)
         ⟨(0,_),by simp,by simp [lk_st,g1']⟩ (AS.le_of rfl ⟨rfl,rfl,rfl,rfl,rfl,trivial⟩ (fun _=>rfl)) ?_
       clear g1 g1'
       rintro ⟨⟨j,h⟩,hj,g1⟩
       dsimp only at hj g1 ⊢
       by_cases hj2 : j = a1.length
       · subst hj2
         have y1 : ¬ (a1.length : Int) < a1.length:=by omega
         repeat' (first | intro (hb : _ = _) | refine ZV ?_ | refine ZB tm sp ?_ | refine ZH ?_ ?_ | refine ZJ (by conv=>lhs; simp [y1]) ?_ | refine ZA ?_ ?_)
         exact ⟨⟨(0 + 1,h),by dsimp only; omega,g1⟩,by dsimp only; omega,AS.le_of rfl ⟨rfl,rfl,trivial⟩ (fun _=>rfl)⟩
       · obtain ⟨x,hx⟩:=get_lt (l:=a1) (i:=j) (by omega)
         have hm : (a1.map Tok.c)[j]? = some x.c:=by rw [List.getElem?_map,hx]; rfl
         obtain ⟨zx1,zx2⟩:=zz x (List.mem_of_getElem? hx)
         have y1 : (j : Int) < a1.length:=by omega
         have y2 : ¬ a1.length ≤ j:=by omega
         have hw : IntKind.i64.wrap ((j : Int) + 1) = ((j + 1 : Nat) : Int):=w64 (by omega) (by omega)
         obtain ⟨x1,x2,o,x3,x4,x5⟩:=x
         dsimp only at zx1 zx2
         subst zx1 zx2
         simp only [Tok.c] at hm
         repeat' (first | intro (hb : _ = _) | refine ZV ?_ | refine ZB tm sp ?_ | refine ZH ?_ ?_ | refine ZJ (by conv=>lhs; simp [y1,y2,hm,hw]) ?_ | refine ZA ?_ ?_)
         exact ⟨⟨(j + 1,_),by dsimp only; omega,by simp [lk_st,g1]⟩,by dsimp only; omega,AS.le_of rfl ⟨rfl,rfl,rfl,rfl,rfl,trivial⟩ (fun _=>rfl)⟩
     · have zz:=z2 1 (by unfold N3; omega)
       have hl9:=hlen 1 (by unfold N3; omega)
       simp only [Grd.tk,Int.reduceEq,reduceIte] at zz hl9
       repeat' (first | intro (hb : _ = _) | refine ZV ?_ | refine ZB tm sp ?_ | refine ZH ?_ ?_ | refine ZJ (by conv=>lhs; simp [g1]) ?_ | refine ZA ?_ ?_)
       refine W.loop rfl (ι:={ p : Nat × NL ABlk // p.1 ≤ a2.length ∧ lk p.2 496 = some (grB 1 ⟨a1,a2,a3,es,[],v0,v1⟩) })
         (fun p=>⟨273,[(3, .ptr 496 1 0 0),(242, .int .i64 1),(251, .list 41 (a2.map Tok.c)),(252, .int .i64 a2.length),(253, .int .i64 (p.1.1 : Nat))],p.1.2⟩) (fun p=>a2.length - p.1.1)
         ⟨(0,_),by simp,by simp [lk_st,g1']⟩ (AS.le_of rfl ⟨rfl,rfl,rfl,rfl,rfl,trivial⟩ (fun _=>rfl)) ?_
       clear g1 g1'
       rintro ⟨⟨j,h⟩,hj,g1⟩
       dsimp only at hj g1 ⊢
       by_cases hj2 : j = a2.length
       · subst hj2
         have y1 : ¬ (a2.length : Int) < a2.length:=by omega
         repeat' (first | intro (hb : _ = _) | refine ZV ?_ | refine ZB tm sp ?_ | refine ZH ?_ ?_ | refine ZJ (by conv=>lhs; simp [y1]) ?_ | refine ZA ?_ ?_)
         exact ⟨⟨(1 + 1,h),by dsimp only; omega,g1⟩,by dsimp only; omega,AS.le_of rfl ⟨rfl,rfl,trivial⟩ (fun _=>rfl)⟩
       · obtain ⟨x,hx⟩:=get_lt (l:=a2) (i:=j) (by omega)
         have hm : (a2.map Tok.c)[j]? = some x.c:=by rw [List.getElem?_map,hx]; rfl
         obtain ⟨zx1,zx2⟩:=zz x (List.mem_of_getElem? hx)
         have y1 : (j : Int) < a2.length:=by omega
         have y2 : ¬ a2.length ≤ j:=by omega
         have hw : IntKind.i64.wrap ((j : Int) + 1) = ((j + 1 : Nat) : Int):=w64 (by omega) (by omega)
         obtain ⟨x1,x2,o,x3,x4,x5⟩:=x
         dsimp only at zx1 zx2
         subst zx1 zx2
         simp only [Tok.c] at hm
         repeat' (first | intro (hb : _ = _) | refine ZV ?_ | refine ZB tm sp ?_ | refine ZH ?_ ?_ | refine ZJ (by conv=>lhs; simp [y1,y2,hm,hw]) ?_ | refine ZA ?_ ?_)
         exact ⟨⟨(j + 1,_),by dsimp only; omega,by simp [lk_st,g1]⟩,by dsimp only; omega,AS.le_of rfl ⟨rfl,rfl,rfl,rfl,rfl,trivial⟩ (fun _=>rfl)⟩
     · have zz:=z2 2 (by unfold N3; omega)
       have hl9:=hlen 2 (by unfold N3; omega)
       simp only [Grd.tk,Int.reduceEq,reduceIte] at zz hl9
       repeat' (first | intro (hb : _ = _) | refine ZV ?_ | refine ZB tm sp ?_ | refine ZH ?_ ?_ | refine ZJ (by conv=>lhs; simp [g1]) ?_ | refine ZA ?_ ?_)
       refine W.loop rfl (ι:={ p : Nat × NL ABlk // p.1 ≤ a3.length ∧ lk p.2 496 = some (grB 1 ⟨a1,a2,a3,es,[],v0,v1⟩) })
         (fun p=>⟨273,[(3, .ptr 496 1 0 0),(242, .int .i64 2),(251, .list 41 (a3.map Tok.c)),(252, .int .i64 a3.length),(253, .int .i64 (p.1.1 : Nat))],p.1.2⟩) (fun p=>a3.length - p.1.1)
         ⟨(0,_),by simp,by simp [lk_st,g1']⟩ (AS.le_of rfl ⟨rfl,rfl,rfl,rfl,rfl,trivial⟩ (fun _=>rfl)) ?_
       clear g1 g1'
       rintro ⟨⟨j,h⟩,hj,g1⟩
       dsimp only at hj g1 ⊢
       by_cases hj2 : j = a3.length
       · subst hj2
         have y1 : ¬ (a3.length : Int) < a3.length:=by omega
         repeat' (first | intro (hb : _ = _) | refine ZV ?_ | refine ZB tm sp ?_ | refine ZH ?_ ?_ | refine ZJ (by conv=>lhs; simp [y1]) ?_ | refine ZA ?_ ?_)
         exact ⟨⟨(2 + 1,h),by dsimp only; omega,g1⟩,by dsimp only; omega,AS.le_of rfl ⟨rfl,rfl,trivial⟩ (fun _=>rfl)⟩
       · obtain ⟨x,hx⟩:=get_lt (l:=a3) (i:=j) (by omega)
         have hm : (a3.map Tok.c)[j]? = some x.c:=by rw [List.getElem?_map,hx]; rfl
         obtain ⟨zx1,zx2⟩:=zz x (List.mem_of_getElem? hx)
         have y1 : (j : Int) < a3.length:=by omega
         have y2 : ¬ a3.length ≤ j:=by omega
         have hw : IntKind.i64.wrap ((j : Int) + 1) = ((j + 1 : Nat) : Int):=w64 (by omega) (by omega)
         obtain ⟨x1,x2,o,x3,x4,x5⟩:=x
         dsimp only at zx1 zx2
         subst zx1 zx2
         simp only [Tok.c] at hm
         repeat' (first | intro (hb : _ = _) | refine ZV ?_ | refine ZB tm sp ?_ | refine ZH ?_ ?_ | refine ZJ (by conv=>lhs; simp [y1,y2,hm,hw]) ?_ | refine ZA ?_ ?_)
         exact ⟨⟨(j + 1,_),by dsimp only; omega,by simp [lk_st,g1]⟩,by dsimp only; omega,AS.le_of rfl ⟨rfl,rfl,rfl,rfl,rfl,trivial⟩ (fun _=>rfl)⟩
   · have qr : (r : Int) < 60:=by omega
     have hwr : IntKind.i64.wrap ((r : Int) + 1) = ((r + 1 : Nat) : Int):=w64 (by omega) (by omega)
     obtain ⟨P,hP⟩ : ∃ P,60 - r = P:=⟨_,rfl⟩
     repeat' (first | intro (hb : _ = _) | refine ZV ?_ | refine ZB tm sp ?_ | refine ZH ?_ ?_ | refine ZJ (by conv=>lhs; simp [qr]) ?_ | refine ZA ?_ ?_)
     refine W.loop rfl (ι:={ p : Nat × Grd × NL ABlk // p.1 ≤ 3 ∧ GInv p.2.1 ∧ Rnd P (3 * p.1) p.2.1 ∧ lk p.2.2 496 = some (grB 1 p.2.1) })
       (fun p=>⟨273,[(3, .ptr 496 1 0 0),(20, .int .i64 (r : Nat)),(21, .int .i64 (p.1.1 : Nat))],p.1.2.2⟩) (fun p=>3 - p.1.1)
       ⟨(0,g,h),by dsimp only; omega,inv, .inr ⟨by rw [← hP]; exact hphi,⟨fun a b _ _ c=>absurd c (by omega),fun a _ c=>absurd c (by omega)⟩⟩,g1⟩ (AS.le_of rfl ⟨rfl,rfl,rfl,trivial⟩ (fun _=>rfl)) ?_
     clear inv g1 hphi
     clear g h
     rintro ⟨⟨a,g,h⟩,ha,inv,hR,g1⟩
     dsimp only at ha inv hR g1 ⊢
     by_cases ha3 : a = 3
     · subst ha3
       have hend:=round_end inv (r:=r) (by rw [hP]; exact hR)
       repeat' (first | intro (hb : _ = _) | refine ZV ?_ | refine ZB tm sp ?_ | refine ZH ?_ ?_ | refine ZJ (by conv=>lhs; simp [hwr]) ?_ | refine ZA ?_ ?_)
       exact ⟨⟨(r + 1,g,_),by dsimp only; omega,inv,hend,g1⟩,by dsimp only; omega,AS.le_of rfl ⟨rfl,rfl,trivial⟩ (fun _=>rfl)⟩
     · have qa : (a : Int) < 3:=by omega
       have hwa : IntKind.i64.wrap ((a : Int) + 1) = ((a + 1 : Nat) : Int):=w64 (by omega) (by omega)
       have ha' : a < 3:=by omega
       repeat' (first | intro (hb : _ = _) | refine ZV ?_ | refine ZB tm sp ?_ | refine ZH ?_ ?_ | refine ZJ (by conv=>lhs; simp [qa]) ?_ | refine ZA ?_ ?_)
       refine W.loop rfl (ι:={ p : Nat × Grd × NL ABlk // p.1 ≤ 3 ∧ GInv p.2.1 ∧ Rnd P (3 * a + p.1) p.2.1 ∧ lk p.2.2 496 = some (grB 1 p.2.1) })
         (fun p=>⟨273,[(3, .ptr 496 1 0 0),(20, .int .i64 (r : Nat)),(21, .int .i64 (a : Nat)),(22, .int .i64 (p.1.1 : Nat))],p.1.2.2⟩) (fun p=>3 - p.1.1)
         ⟨(0,g,h),by dsimp only; omega,inv,hR,g1⟩ (AS.le_of rfl ⟨rfl,rfl,rfl,rfl,trivial⟩ (fun _=>rfl)) ?_
       clear inv g1 hR
       clear g h
       rintro ⟨⟨b,g,h⟩,hb,inv,hR,g1⟩
       dsimp only at hb inv hR g1 ⊢
       by_cases hb3 : b = 3
       · subst hb3
         repeat' (first | intro (hb : _ = _) | refine ZV ?_ | refine ZB tm sp ?_ | refine ZH ?_ ?_ | refine ZJ (by conv=>lhs; simp [hwa]) ?_ | refine ZA ?_ ?_)
         exact ⟨⟨(a + 1,g,_),by dsimp only; omega,inv,hR,g1⟩,by dsimp only; omega,AS.le_of rfl ⟨rfl,rfl,rfl,trivial⟩ (fun _=>rfl)⟩
       · have qb : (b : Int) < 3:=by omega
         have hwb : IntKind.i64.wrap ((b : Int) + 1) = ((b + 1 : Nat) : Int):=w64 (by omega) (by omega)
         have hb' : b < 3:=by omega
         obtain ⟨g',d1,d2,d3⟩:=round_step inv ha' hb' hR
         have hna:=N3_nat ha'
         obtain ⟨s1,s2, -⟩:=inv.unpin hna
         have cu:=gunS_eq ⟨g,a,hna,inv.bas.len hna,inv.val hna,s1⟩
         have cd:=gdlS_eq (N3_nat hb') d1
         have cg:=ggdS_eq d2.good
         dsimp only at cu
         generalize g.unpin (a : Int) = G at *
         simp only [grB,Grd.row] at cu cd cg g1
         clear inv hR s1 s2 d1
         repeat' (first | intro (hb : _ = _) | refine ZV ?_ | refine ZB tm sp ?_ | refine ZH ?_ ?_ | refine ZJ (by conv=>lhs; simp [g1,cu,cd,cg,qb,hwb]) ?_ | refine ZA ?_ ?_)
         exact ⟨⟨(b + 1,g',_),by dsimp only; omega,d2,d3,by simp [lk_st,grB,Grd.row]⟩,by dsimp only; omega,AS.le_of rfl ⟨rfl,rfl,rfl,rfl,trivial⟩ (fun _=>rfl)⟩
 · have hlt : i < n:=by omega
   obtain ⟨b,hb⟩:=get_lt (l:=ops) (i:=i) (by omega)
   have hm : (ops.map byte)[i]? = some [.int .u8 b.toNat]:=by rw [List.getElem?_map,hb]; rfl
   have q1 : (i : Int) < ops.length:=by omega
   have q2 : ¬ ops.length ≤ i:=by omega
   have q3 : (i : Int) < 120:=by omega
   have q3' : i < 120:=by omega
   have hw1 : IntKind.i64.wrap ((i : Int) + 1) = ((i + 1 : Nat) : Int):=w64 (by omega) (by omega)
   have bw:=byte_w b
   have bl:=byte_lt b
   obtain ⟨o,ho⟩ : ∃ o : Nat,b.toNat = o:=⟨_,rfl⟩
   rw [ho] at hm bw bl
   clear ho hb
   obtain ⟨o3,ho3,_⟩:=div_b bl 3 (by omega)
   obtain ⟨o6,ho6,_⟩:=div_b bl 6 (by omega)
   obtain ⟨o48,ho48,l48⟩:=div_b bl 48 (by omega)
   obtain ⟨n',hn',en⟩:=tmod_nat (x:=(o : Int)) (m:=3) (by omega) (by omega)
   obtain ⟨k',hk',ek⟩:=tmod_nat (x:=(o3 : Int)) (m:=2) (by omega) (by omega)
   obtain ⟨c,hc,ec⟩:=tmod_nat (x:=(o6 : Int)) (m:=8) (by omega) (by omega)
   have ho3 : IntKind.i64.wrap ((o : Int) / 3) = (o3 : Int):=ho3
   have ho6 : IntKind.i64.wrap ((o : Int) / 6) = (o6 : Int):=ho6
   have ho48 : IntKind.i64.wrap ((o : Int) / 48) = (o48 : Int):=ho48
   have en : ((o : Int)).tmod 3 = (n' : Int):=en
   have ek : ((o3 : Int)).tmod 2 = (k' : Int):=ek
   have ec : ((o6 : Int)).tmod 8 = (c : Int):=ec
   have hN:=N3_of hn'
   have hK:=N2_of hk'
   generalize (n' : Int) = N at *
   generalize (k' : Int) = K at *
   clear hn' hk'
   repeat' (first | intro (hb : _ = _) | refine ZV ?_ | refine ZB (id:=18) tm sp ?_ | refine ZB (id:=19) tm sp ?_ | refine ZB (id:=20) tm sp ?_ | refine ZB (id:=21) tm sp ?_ | refine ZB (id:=22) tm sp ?_ | refine ZB (id:=23) tm sp ?_ | refine ZH ?_ ?_ | refine ZJ (by conv=>lhs; simp [q1,q2,hm,q3,q3',bw,ho3,ho6,en,ek,ec]) ?_ | refine ZA ?_ ?_)
   clear ho3 ho6 en ek ec q1 q2 q3 q3' hm bw
   refine W.cutB2 (fun σ' => ∃ (g' : Grd) (H : NL ABlk),GInv g' ∧ (0 ≤ g'.v0 ∧ g'.v0 ≤ (i + 1 : Nat)) ∧ (0 ≤ g'.v1 ∧ g'.v1 ≤ (i + 1 : Nat)) ∧ lk H 496 = some (grB 1 g') ∧ AS.le ⟨273,[(0, .list 1 (ops.map byte)),(3, .ptr 496 1 0 0),(8, .int .i64 (i : Nat)),(12, .bool true)],H⟩ σ') ?_ ?_
   · have hl9 : (g.tk N).length ≤ 9000:=inv.bas.len hN
     have ob:=obS_eq hK
     have hmd : (g.pt K N).mode = 0 ∨ (g.pt K N).mode = 1 ∨ (g.pt K N).mode = 2:=by
       rcases pt_ok inv.bas hN K with e | e
       · rw [e]; exact .inl rfl
       · exact (fineR_iff.1 e).2.1
     rcases (show (c = 0 ∨ c = 1) ∨ c = 2 ∨ c = 3 ∨ c = 4 ∨ 5 ≤ c by omega) with hc01 | rfl | rfl | rfl | hc5
     · obtain ⟨r2,hr2,er2⟩:=tmod_nat (x:=(o48 : Int)) (m:=2) (by omega) (by omega)
       have er2 : ((o48 : Int)).tmod 2 = (r2 : Int):=er2
       have hm1 : IntKind.i64.wrap (1 + (r2 : Int)) = ((r2 + 1 : Nat) : Int):=by rw [w64 (by omega) (by omega)]; omega
       obtain ⟨l,ms,e1,e2,e3,e4⟩:=inv.want hN hK (m:=((r2 + 1 : Nat) : Int)) (by omega) hl9
       generalize ((r2 + 1 : Nat) : Int) = m at *
       have cw:=wntS_eq ⟨N,g.tk N,hl9⟩ (idG K) m 0
       rw [e1] at cw
       have cs:=gsnS_eq (g.set N l) ms e2 (by rw [(set_ls g N l).1]; exact e3)
       rw [sent_set] at cs
       have eV : ({ g.set N l with ls:=sendF g.ls ms } : Grd).v0 = g.v0 ∧ ({ g.set N l with ls:=sendF g.ls ms } : Grd).v1 = g.v1:=⟨(set_ls g N l).2.2.1,(set_ls g N l).2.2.2⟩
       generalize ({ g.set N l with ls:=sendF g.ls ms } : Grd) = G at *
       simp only [Tks.v,rU] at cw
       have hv0' : 0 ≤ G.v0 ∧ G.v0 ≤ (i + 1 : Nat):=by omega
       have hv1' : 0 ≤ G.v1 ∧ G.v1 ≤ (i + 1 : Nat):=by omega
       clear e1 e2 e3 eV hmd inv hl9 hw1 hv0 hv1 hlt
       obtain ⟨a1,a2,a3,es,ls,v0,v1⟩:=g
       rcases hc01 with rfl | rfl <;> rcases hN with rfl | rfl | rfl <;> rcases hK with rfl | rfl
       all_goals (
         simp only [Grd.tk,Grd.set,Grd.val,Grd.inc,idG,Int.reduceEq,Int.reduceAdd,reduceIte,grB,Grd.row] at cw cs ob g1
         repeat' (first | intro (hb : _ = _) | refine ZV ?_ | refine ZB tm sp ?_ | refine ZH ?_ ?_ | refine ZJ (by conv=>lhs; simp [g1,ob,cw,cs,ho48,er2,hm1]) ?_ | refine ZA ?_ ?_)
         exact ⟨G,_,e4,hv0',hv1',by simp [lk_st,grB,Grd.row],AS.le_of rfl ⟨rfl,rfl,rfl,rfl,trivial⟩ (fun _=>rfl)⟩)
     · have hv0' : 0 ≤ g.v0 ∧ g.v0 ≤ (i + 1 : Nat):=by omega
       have hv1' : 0 ≤ g.v1 ∧ g.v1 ≤ (i + 1 : Nat):=by omega
       have cp:=pinS_eq ⟨N,g.tk N,hl9⟩ (idG K) 1
       rcases inv.pin hN hK hl9 with e1 | ⟨l,e1,e4⟩
       · rw [e1] at cp
         simp only [Tks.v,rT] at cp
         have g1':=g1
         clear e1 hmd hl9 hw1 hv0 hv1 hlt
         obtain ⟨a1,a2,a3,es,ls,v0,v1⟩:=g
         rcases hN with rfl | rfl | rfl <;> rcases hK with rfl | rfl
         all_goals (
           simp only [Grd.tk,Grd.set,Grd.val,Grd.inc,idG,Int.reduceEq,Int.reduceAdd,reduceIte,grB,Grd.row] at cp ob g1
           repeat' (first | intro (hb : _ = _) | refine ZV ?_ | refine ZB tm sp ?_ | refine ZH ?_ ?_ | refine ZJ (by conv=>lhs; simp [g1,ob,cp]) ?_ | refine ZA ?_ ?_)
           exact ⟨_,_,inv,hv0',hv1',by simp [lk_st,g1'],AS.le_of rfl ⟨rfl,rfl,rfl,rfl,trivial⟩ (fun _=>rfl)⟩)
       · rw [e1] at cp
         simp only [Tks.v,rT] at cp
         clear e1 hmd hl9 hw1 hv0 hv1 hlt inv
         obtain ⟨a1,a2,a3,es,ls,v0,v1⟩:=g
         rcases hN with rfl | rfl | rfl <;> rcases hK with rfl | rfl
         all_goals (
           simp only [Grd.tk,Grd.set,Grd.val,Grd.inc,idG,Int.reduceEq,Int.reduceAdd,reduceIte,grB,Grd.row] at cp ob g1 e4
           repeat' (first | intro (hb : _ = _) | refine ZV ?_ | refine ZB tm sp ?_ | refine ZH ?_ ?_ | refine ZJ (by conv=>lhs; simp [g1,ob,cp]) ?_ | refine ZA ?_ ?_)
           exact ⟨_,_,e4,hv0',hv1',by simp [lk_st,g1,grB,Grd.row],AS.le_of rfl ⟨rfl,rfl,rfl,rfl,trivial⟩ (fun _=>rfl)⟩)
     · obtain ⟨s1,s2,_,_,s5,s6⟩:=inv.unpin hN
       have cu:=gunS_eq ⟨g,N,hN,hl9,inv.val hN,s1⟩
       dsimp only at cu
       generalize g.unpin N = G at *
       simp only [grB,Grd.row] at cu g1
       repeat' (first | intro (hb : _ = _) | refine ZV ?_ | refine ZB tm sp ?_ | refine ZH ?_ ?_ | refine ZJ (by conv=>lhs; simp [g1,cu]) ?_ | refine ZA ?_ ?_)
       exact ⟨G,_,s2,by omega,by omega,by simp [lk_st,grB,Grd.row],AS.le_of rfl ⟨rfl,rfl,rfl,rfl,trivial⟩ (fun _=>rfl)⟩
     · have ch:=hoS_eq ⟨N,g.tk N,hl9⟩ (idG K) 2
       change _ = some (AV.bool (okM 2 && decide (2 ≤ (g.pt K N).mode)),[]) at ch
       simp only [Tks.v] at ch
       by_cases hm2 : (g.pt K N).mode = 2
       · rw [hm2] at ch
         change _ = some (AV.bool true,[]) at ch
         have hvl : 0 ≤ g.val K ∧ g.val K ≤ i:=by
           rcases hK with rfl | rfl
           · exact hv0
           · exact hv1
         obtain ⟨l,e1,e4⟩:=inv.puts hN hK hm2 hl9 (idG_wf hK) (wf_sm (by omega) (by omega))
         have cp:=putoN_eq ⟨N,g.tk N,hl9⟩ (idG K) (idG K) (g.val K + 1) (idG_wf hK) (wf_sm (by omega) (by omega))
         rw [e1] at cp
         have hwv : IntKind.i64.wrap (g.val K + 1) = g.val K + 1:=w64 (by omega) (by omega)
         simp only [Tks.v,rT,dvC] at cp
         clear e1 hmd hl9 hw1 hlt inv hm2 hvl
         obtain ⟨a1,a2,a3,es,ls,v0,v1⟩:=g
         dsimp only at hv0 hv1
         rcases hN with rfl | rfl | rfl <;> rcases hK with rfl | rfl
         all_goals (
           simp only [Grd.tk,Grd.set,Grd.val,Grd.inc,idG,Int.reduceEq,Int.reduceAdd,reduceIte,grB,Grd.row] at cp ch ob g1 e4 hwv
           repeat' (first | intro (hb : _ = _) | refine ZV ?_ | refine ZB tm sp ?_ | refine ZH ?_ ?_ | refine ZJ (by conv=>lhs; simp [g1,ob,ch,cp,hwv]) ?_ | refine ZA ?_ ?_)
           exact ⟨_,_,e4,by dsimp only; omega,by dsimp only; omega,by simp [lk_st,g1,grB,Grd.row],AS.le_of rfl ⟨rfl,rfl,rfl,rfl,trivial⟩ (fun _=>rfl)⟩)
       · rw [show decide (2 ≤ (g.pt K N).mode) = false from by simp; omega,Bool.and_false] at ch
         have g1':=g1
         have hv0' : 0 ≤ g.v0 ∧ g.v0 ≤ (i + 1 : Nat):=by omega
         have hv1' : 0 ≤ g.v1 ∧ g.v1 ≤ (i + 1 : Nat):=by omega
         clear hmd hl9 hw1 hlt hm2
         obtain ⟨a1,a2,a3,es,ls,v0,v1⟩:=g
         rcases hN with rfl | rfl | rfl <;> rcases hK with rfl | rfl
         all_goals (
           simp only [Grd.tk,Grd.set,Grd.val,Grd.inc,idG,Int.reduceEq,Int.reduceAdd,reduceIte,grB,Grd.row] at ch ob g1
           repeat' (first | intro (hb : _ = _) | refine ZV ?_ | refine ZB tm sp ?_ | refine ZH ?_ ?_ | refine ZJ (by conv=>lhs; simp [g1,ob,ch]) ?_ | refine ZA ?_ ?_)
           exact ⟨_,_,inv,hv0',hv1',by simp [lk_st,g1'],AS.le_of rfl ⟨rfl,rfl,rfl,rfl,trivial⟩ (fun _=>rfl)⟩)
     · obtain ⟨t,ht,et⟩:=tmod_nat (x:=N + (o48 : Int)) (m:=3) (by omega) (by omega)
       have et : (N + (o48 : Int)).tmod 3 = (t : Int):=et
       have hwn : IntKind.i64.wrap (N + (o48 : Int)) = N + (o48 : Int):=w64 (by omega) (by omega)
       obtain ⟨G,d1,d2,d3,d4,_⟩:=inv.deliver (a:=N) (b:=(t : Int)) (N3_of ht)
       have cd:=gdlS_eq (N3_of ht) d1
       simp only [grB,Grd.row] at cd g1
       have f0 : ((c : Int) == 0) = false:=by simp; omega
       have f1 : ((c : Int) == 1) = false:=by simp; omega
       have f2 : ((c : Int) == 2) = false:=by simp; omega
       have f3 : ((c : Int) == 3) = false:=by simp; omega
       have f4 : ((c : Int) == 4) = false:=by simp; omega
       clear hmd hl9 hlt
       repeat' (first | intro (hb : _ = _) | refine ZV ?_ | refine ZB tm sp ?_ | refine ZH ?_ ?_ | refine ZJ (by conv=>lhs; simp [g1,cd,f0,f1,f2,f3,f4,ho48,hwn,et]) ?_ | refine ZA ?_ ?_)
       exact ⟨G,_,d2,by omega,by omega,by simp [lk_st,grB,Grd.row],AS.le_of rfl ⟨rfl,rfl,rfl,rfl,trivial⟩ (fun _=>rfl)⟩
   · rintro σ' ⟨g',H,inv',hv0',hv1',h1,hle⟩
     refine W.weak hle ?_
     clear hle
     have cg:=ggdS_eq inv'.good
     have h1':=h1
     simp only [grB,Grd.row] at cg h1'
     repeat' (first | intro (hb : _ = _) | refine ZV ?_ | refine ZB tm sp ?_ | refine ZH ?_ ?_ | refine ZJ (by conv=>lhs; simp [h1',cg,hw1]) ?_ | refine ZA ?_ ?_)
     exact ⟨⟨i + 1,g',_,by omega,inv',hv0',hv1',by simp [lk_st,h1,grB,Grd.row]⟩,by dsimp only; omega,AS.le_of rfl ⟨rfl,rfl,rfl,trivial⟩ (fun _=>rfl)⟩
end
section
theorem shOps {x : AV} (h : TyV Try.prog 9 22 x) : ∃ l : Ops,x = .list 1 (l.1.map byte) := by
 simp only [TyV,TyR,Try.underlying22,Try.underlying5,vc5,List.cons.injEq,and_true] at h
 obtain ⟨rows,rfl,hl,h⟩:=h
 have : ∀ rows : List (List AV),(∀ row ∈ rows, ∃ m,row = [AV.int .u8 m] ∧ (Lit.int .u8 m).wf = true) → ∃ l : List UInt8,rows = l.map byte:=by
   intro rows
   induction rows with
   | nil=>exact fun _=>⟨[],rfl⟩
   | cons r rs ih =>
     intro h
     obtain ⟨l,hl⟩:=ih fun row hr=>h row (by simp [hr])
     obtain ⟨m,rfl,hm⟩:=h r (by simp)
     simp only [Lit.wf,Bool.and_eq_true,decide_eq_true_eq] at hm
     have h1 : (0 : Int) ≤ m:=hm.1
     have h2 : m ≤ 255:=hm.2
     refine ⟨UInt8.ofNat m.toNat :: l, ?_⟩
     rw [List.map_cons,hl]
     congr 1
     simp only [byte,UInt8.toNat_ofNat',List.cons.injEq,AV.int.injEq,true_and,and_true]
     omega
 obtain ⟨l,rfl⟩:=this rows h
 exact ⟨⟨l,by simpa using hl⟩,rfl⟩
end
end Go.Abs.Np
