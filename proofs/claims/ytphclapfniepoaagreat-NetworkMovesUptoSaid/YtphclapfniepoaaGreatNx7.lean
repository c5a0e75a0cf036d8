/- Objects that are made: pipes. Conditions: none. -/
import Derived.Test.YtphclapfniepoaaGreatNx6
import Derived.Test.YtphclapfniepoaaGreatAb9
namespace Go.Abs.Nx
open Go Go.Proofs Go.Abs
set_option maxRecDepth 100000
set_option maxHeartbeats 4000000
set_option linter.unusedSimpArgs false
set_option linter.unusedVariables false
section
attribute [local simp] instA slice3A slice3C makeSliceA
attribute [-simp] mkv
attribute [local simp] mkv_hd hdA_cons hdA_ob hdA_ob' dc_specs
theorem nfB : (Tryz.prog.info? 5).map (fun i => (i.size,i.bytes)) = some (1,1) := by kernel_rfl
theorem nfB_ex : ∃ i,Tryz.prog.info? 5 = some i ∧ i.size = 1 ∧ i.bytes = 1 := by
 have h:=nfB
 rw [Option.map_eq_some_iff] at h
 obtain ⟨i,h1,h2⟩:=h
 exact ⟨i,h1,congrArg Prod.fst h2,congrArg Prod.snd h2⟩
def z64 : List UInt8 := List.replicate 64 0
theorem z64_eq : z64.map byte = List.replicate 64 [.int .u8 0] := by simp [z64,byte]
theorem wfs {k : Int} (h : 0 ≤ k) (h2 : k < 10000) : (Lit.int .i64 k).wf = true := wfk (by omega) (by omega)
theorem pip_ex : ∃ S,FnC Tryz.prog 48 S ∧ ∀ x, ∃ r,S (encDI x).1 (encDI x).2 = some r ∧ OxP x r := by
 obtain ⟨SB,hSB,hSBe⟩:=bt_ex
 have sp : ∀ p ∈ ([(76,⟨1,ocS o11⟩),(8,⟨3,diceS⟩),(75,⟨3,SB⟩)] : NL Spec),FnC Tryz.prog p.1 p.2.fn:=by
   simp only [List.mem_cons,List.not_mem_nil,or_false]
   rintro p (rfl | rfl | rfl)
   · exact n11_ok
   · exact dice_ok
   · exact hSB
 refine FnC.existsB 48 (fn:=Tryz.f48) Tryz.func48 rfl (by kernel_rfl) (fun x b hb=>by simp [encDI] at hb; rw [hb]; rfl) encDI_inj OxP.ne fun x=>?_
 obtain ⟨⟨ds,id⟩,hid⟩:=x
 dsimp only at hid
 change W _ _ _ _ ⟨30,[(0, .ptr 0 0 0 0),(1, .int .u64 id)],[(0,diceB ds)]⟩
 have c1:=ocS_eq o11 id
 have d1:=diceS_eq ds 3
 have d2:=diceS_eq (dl ds 3) 3
 have a0:=dn_nonneg ds 3
 have a1:=dn_lt ds (n:=3) (by omega)
 have b0:=dn_nonneg (dl ds 3) 3
 have b1:=dn_lt (dl ds 3) (n:=3) (by omega)
 generalize dl ds 3 = e1 at *
 generalize dl e1 3 = e2 at *
 generalize dn ds 3 = a at *
 generalize dn e1 3 = b at *
 obtain ⟨_,c2,bs,e3,hb,rfl⟩:=hSBe ⟨(e2,5),by simp,by simp⟩
 have d3:=diceS_eq e3 5
 generalize dl e3 5 = e4 at *
 generalize dn e3 5 = u at *
 have hw : IntKind.i64.wrap (a + b) = a + b:=w64 (by omega) (by omega)
 obtain ⟨nf,nf1,nf2,nf3⟩:=nfB_ex
 simp only [encDN,encD] at c2
 simp only [diceB] at c2 d1 d2 d3 ⊢
 simp only [o11,Ox.cells] at c1
 obtain ⟨a',ha',k1,k2,k3⟩ : ∃ a',((a + b == 0) = true ∧ a' = 1 ∨ (a + b == 0) = false ∧ a' = a) ∧ 0 ≤ a' ∧ a' < 10000 ∧ True:=by
   cases h : (a + b == 0)
   case true=>exact ⟨1, .inl ⟨rfl,rfl⟩,by omega,by omega,trivial⟩
   case false=>exact ⟨a, .inr ⟨rfl,rfl⟩,a0,by omega,trivial⟩
 by_cases hu : u = 4
 · subst hu
   rcases ha' with ⟨h,rfl⟩ | ⟨h,rfl⟩
   all_goals
     repeat' (first | intro (hb : _ = _) | refine ZV ?_ | refine ZB tm sp ?_ | refine ZH ?_ ?_ | refine ZJ (by conv=>lhs; simp [c1,c2,d1,d2,d3,hw,h,nf1,nf2,nf3]) ?_ | refine ZA ?_ ?_)
     refine ⟨(.agg (Ox.cells ⟨id,5,0,[],z64.map byte,0,0,_,b,[],[],[],0,0,0,[]⟩),[diceB e4]),⟨_,e4,mkOK hid (hb:=rwOK_bytes (by decide)) (hp8:=wfs k1 k2) (hp9:=wfs b0 (by omega)),rfl⟩, ?_⟩
     refine RetB.mk true [0] rfl (by conv=>lhs; simp) (by conv=>lhs; simp) (by decide) (by rintro j hj; have hj : j < 1:=hj; rcases (show j = 0 by omega) with rfl; exact ⟨rfl,by simp⟩) (by simp [diceB]) (by simp [Ox.cells,z64_eq,List.replicate])
 · have hu : (u == 4) = false:=by simpa using hu
   rcases ha' with ⟨h,rfl⟩ | ⟨h,rfl⟩
   all_goals
     repeat' (first | intro (hb : _ = _) | refine ZV ?_ | refine ZB tm sp ?_ | refine ZH ?_ ?_ | refine ZJ (by conv=>lhs; simp [c1,c2,d1,d2,d3,hw,h,hu]) ?_ | refine ZA ?_ ?_)
     refine ⟨(.agg (Ox.cells ⟨id,5,0,[],bs.map byte,0,0,_,b,[],[],[],0,0,0,[]⟩),[diceB e4]),⟨_,e4,mkOK hid (hb:=rwOK_bytes hb) (hp8:=wfs k1 k2) (hp9:=wfs b0 (by omega)),rfl⟩, ?_⟩
     exact RetB.raw [0] rfl (by conv=>lhs; simp) (by decide) (by rintro j hj; have hj : j < 1:=hj; rcases (show j = 0 by omega) with rfl; exact ⟨rfl,by simp⟩) (by simp [diceB]) (by simp [Ox.cells])
end
section
attribute [local simp] instA slice3A slice3C makeSliceA
attribute [-simp] mkv
attribute [local simp] mkv_hd hdA_cons hdA_ob hdA_ob' dc_specs
abbrev IdN := {x : Int × Int // 0 ≤ x.2 ∧ x.2 ≤ 100}
def o13 (id n : Int) : Ox := if id = 0 then oxz 0 0 0 else ⟨id,8,0,[],[],0,0,0,0,[],[],[],0,0,n,[]⟩
def e13 (id : Int) : Int := if id = 0 then 1 else 0
noncomputable def n13S : SpecFn := mkS (fun d : IdN => [.int .u64 d.1.1, .int .i64 d.1.2]) fun d => (.tup [.agg (o13 d.1.1 d.1.2).cells, .int .i64 (e13 d.1.1)],[])
theorem n13S_eq (id n : Int) (h0 : 0 ≤ n) (h1 : n ≤ 100) : n13S [.int .u64 id, .int .i64 n] [] = some (.tup [.agg (o13 id n).cells, .int .i64 (e13 id)],[]) :=
 mkS_eq (enc:=fun d : IdN=>[AV.int .u64 d.1.1, .int .i64 d.1.2]) (res:=fun d=>(.tup [.agg (o13 d.1.1 d.1.2).cells, .int .i64 (e13 d.1.1)],[])) (fun x y h=>by
   simp only [List.cons.injEq,AV.int.injEq,true_and,and_true] at h
   rw [h.1,h.2]) ⟨(id,n),h0,h1⟩
theorem oxt_nrm (id k n p6 i7 p8 p9 c0 c1 s e : Int) : nrmR Tryz.prog [44,56] (.tup [.agg [.int .u64 id, .int .i64 k, .int .i64 n, .int .i64 0, .int .u64 0, .nils, .nils, .nils, .int .i64 0, .int .i64 0, .int .i64 0, .int .i64 0, .int .i64 0, .int .i64 0, .int .i64 0, .int .i64 0, .int .i64 0, .int .i64 0, .nils, .nils, .int .i64 0, .int .i64 0, .int .i64 0, .nils, .nils, .int .i64 p6, .int .u64 i7, .int .i64 p8, .int .i64 p9, .nils, .nils, .nils, .int .i64 c0, .int .i64 c1, .int .i64 s, .nils], .int .i64 e]) = .tup [.agg (Ox.cells ⟨id,k,n,[],[],p6,i7,p8,p9,[],[],[],c0,c1,s,[]⟩), .int .i64 e] := by kernel_rfl
theorem oxt_id (id k n p6 i7 p8 p9 c0 c1 s e : Int) : nrmR Tryz.prog [44,56] (.tup [.agg (Ox.cells ⟨id,k,n,[],[],p6,i7,p8,p9,[],[],[],c0,c1,s,[]⟩), .int .i64 e]) = .tup [.agg (Ox.cells ⟨id,k,n,[],[],p6,i7,p8,p9,[],[],[],c0,c1,s,[]⟩), .int .i64 e] := by kernel_rfl
theorem n13_ok : FnC Tryz.prog 51 n13S := by
 refine FnC.walkN 51 (fn:=Tryz.f51) [44,56] Tryz.func51 rfl (by kernel_rfl) (fun d=>?_) (fun d=>⟨.tup [.agg (o13 d.1.1 d.1.2).cells, .int .i64 (e13 d.1.1)],by
   unfold o13
   split
   · exact oxt_id 0 0 0 0 0 0 0 0 0 0 _
   · exact oxt_id _ 8 0 0 0 0 0 0 0 _ _⟩)
 obtain ⟨⟨id,n⟩,h0,h1⟩:=d
 dsimp only at h0 h1
 change W _ (RetNf _ _ _ (.tup [.agg (o13 id n).cells, .int .i64 (e13 id)]) []) _ _ ⟨19,[(0, .int .u64 id),(1, .int .i64 n)],[]⟩
 by_cases h : id = 0
 · subst h
   repeat' (first | intro (hb : _ = _) | refine ZV ?_ | refine ZB tm no_specs ?_ | refine ZH ?_ ?_ | refine ZJ (by conv=>lhs; simp) ?_ | refine ZA ?_ ?_)
   refine Ye ?_
   exact oxt_nrm 0 0 0 0 0 0 0 0 0 0 1
 · have hz : (id == 0) = false:=by simpa using h
   have q1 : ¬ n < 0:=by omega
   have q2 : ¬ 1073741824 < n:=by omega
   rw [o13,e13,if_neg h,if_neg h]
   repeat' (first | intro (hb : _ = _) | refine ZV ?_ | refine ZB tm no_specs ?_ | refine ZH ?_ ?_ | refine ZJ (by conv=>lhs; simp [hz,q1,q2]) ?_ | refine ZA ?_ ?_)
   refine Ye ?_
   exact oxt_nrm id 8 0 0 0 0 0 0 0 n 0
theorem tg2 : Tryz.prog.eqGuardType Tryz.prog.depth 41 = false := by kernel_rfl
theorem eqi (d : Nat) (a b : Int) : eqV Tryz.prog (d + 1) 3 (.int .i64 a) (.int .i64 b) = some (a == b) := by simp [eqV,Tryz.underlying3]
theorem isI : (Tryz.prog.info? 3).isSome = true := by kernel_rfl
theorem cI2 : Tryz.prog.cellsOf 3 = 1 := by kernel_rfl
theorem pI0 (a b : Int) : partV Tryz.prog 3 [.int .i64 a, .int .i64 b] 0 = some (.int .i64 a) := by kernel_rfl
theorem pI1 (a b : Int) : partV Tryz.prog 3 [.int .i64 a, .int .i64 b] 1 = some (.int .i64 b) := by kernel_rfl
theorem eqV_arr {P : Program} {d n : Nat} {t e : TypeId} {xs ys : List AV} (h : P.underlying t = some (.array n e)) : eqV P (d + 1) t (.agg xs) (.agg ys) = if (P.info? e).isSome then eqIs P (eqV P d) e (P.cellsOf e) xs ys (List.range n) else none := by simp only [eqV,h]
theorem eq2 (a b : Int) : eqV Tryz.prog 9 41 (.agg [.int .i64 a, .int .i64 b]) (.agg [.int .i64 0, .int .i64 0]) = some (a == 0 && (b == 0 && true)) := by
 rw [eqV_arr (e:=3) (n:=2) (by kernel_rfl),isI,if_pos rfl,cI2]
 show eqIs Tryz.prog (eqV Tryz.prog (7 + 1)) 3 1 _ _ [0,1] = _
 simp only [eqIs,Nat.zero_mul,Nat.one_mul,pI0,pI1,eqi]
theorem eql2 (a b : Int) : eqlA Tryz.prog .eql 41 (.agg [.int .i64 a, .int .i64 b]) (.agg [.int .i64 0, .int .i64 0]) = .ret (.bool (a == 0 && (b == 0 && true))) := by
 simp [eqlA,tg2,eq2]
end
section
attribute [local simp] instA slice3A slice3C makeSliceA
attribute [-simp] mkv
attribute [local simp] mkv_hd hdA_cons hdA_ob hdA_ob' dc_specs
theorem chn_ex : ∃ S,FnC Tryz.prog 50 S ∧ ∀ x, ∃ r,S (encDI x).1 (encDI x).2 = some r ∧ OxP x r := by
 obtain ⟨SB,hSB,hSBe⟩:=bt_ex
 have sp : ∀ p ∈ ([(79,⟨1,ocS o12⟩),(8,⟨3,diceS⟩),(75,⟨3,SB⟩)] : NL Spec),FnC Tryz.prog p.1 p.2.fn:=by
   simp only [List.mem_cons,List.not_mem_nil,or_false]
   rintro p (rfl | rfl | rfl)
   · exact n12_ok
   · exact dice_ok
   · exact hSB
 refine FnC.existsB 50 (fn:=Tryz.f50) Tryz.func50 rfl (by kernel_rfl) (fun x b hb=>by simp [encDI] at hb; rw [hb]; rfl) encDI_inj OxP.ne fun x=>?_
 obtain ⟨⟨ds,id⟩,hid⟩:=x
 dsimp only at hid
 change W _ _ _ _ ⟨35,[(0, .ptr 0 0 0 0),(1, .int .u64 id)],[(0,diceB ds)]⟩
 have c1:=ocS_eq o12 id
 have d1:=diceS_eq ds 3
 have d2:=diceS_eq (dl ds 3) 3
 have a0:=dn_nonneg ds 3
 have a1:=dn_lt ds (n:=3) (by omega)
 have b0:=dn_nonneg (dl ds 3) 3
 have b1:=dn_lt (dl ds 3) (n:=3) (by omega)
 generalize dl ds 3 = e1 at *
 generalize dl e1 3 = e2 at *
 generalize dn ds 3 = a at *
 generalize dn e1 3 = b at *
 obtain ⟨_,c2,bs,e3,hb,rfl⟩:=hSBe ⟨(e2,4),by simp,by simp⟩
 obtain ⟨_,c3,bt,e4,ht,rfl⟩:=hSBe ⟨(e3,4),by simp,by simp⟩
 have d3:=diceS_eq e4 5
 generalize dl e4 5 = e5 at *
 generalize dn e4 5 = u at *
 have d4:=diceS_eq e5 2
 have j0:=dn_nonneg e5 2
 have j1:=dn_lt e5 (n:=2) (by omega)
 generalize dl e5 2 = e6 at *
 generalize dn e5 2 = j at *
 obtain ⟨nf,nf1,nf2,nf3⟩:=nfB_ex
 simp only [encDN,encD] at c2 c3
 simp only [diceB] at c2 c3 d1 d2 d3 d4 ⊢
 simp only [o12,Ox.cells] at c1
 have e2':=eql2 a b
 obtain ⟨b',z,hb',k1,k2⟩ : ∃ b' z,((a == 0 && (b == 0 && true)) = z ∧ (z = true ∧ b' = 1 ∨ z = false ∧ b' = b)) ∧ 0 ≤ b' ∧ b' < 10000:=by
   cases h : (a == 0 && (b == 0 && true))
   case true=>exact ⟨1,_,⟨rfl, .inl ⟨rfl,rfl⟩⟩,by omega,by omega⟩
   case false=>exact ⟨b,_,⟨rfl, .inr ⟨rfl,rfl⟩⟩,b0,by omega⟩
 obtain ⟨hz,hb'⟩:=hb'
 rw [hz] at e2'
 clear hz
 by_cases hu : u = 4
 · subst hu
   have hj : j = 0 ∨ j = 1:=by omega
   rcases hj with rfl | rfl
   · rcases hb' with ⟨rfl,rfl⟩ | ⟨rfl,rfl⟩
     all_goals
       repeat' (first | intro (hb : _ = _) | refine ZV ?_ | refine ZB tm sp ?_ | refine ZH ?_ ?_ | refine ZJ (by conv=>lhs; simp [c1,c2,c3,d1,d2,d3,d4,e2',nf1,nf2,nf3]) ?_ | refine ZA ?_ ?_)
       refine ⟨(.agg (Ox.cells ⟨id,7,0,[],[],0,0,0,0,[],z64.map byte,bt.map byte,a,_,0,[]⟩),[diceB e6]),⟨_,e6,mkOK hid (hb0:=rwOK_bytes (by decide)) (hb1:=rwOK_bytes ht) (hc0:=wfs a0 (by omega)) (hc1:=wfs k1 k2),rfl⟩, ?_⟩
       refine RetB.mk true [0] rfl (by conv=>lhs; simp) (by conv=>lhs; simp) (by decide) (by rintro j hj; have hj : j < 1:=hj; rcases (show j = 0 by omega) with rfl; exact ⟨rfl,by simp⟩) (by simp [diceB]) (by simp [Ox.cells,z64_eq,List.replicate])
   · rcases hb' with ⟨rfl,rfl⟩ | ⟨rfl,rfl⟩
     all_goals
       repeat' (first | intro (hb : _ = _) | refine ZV ?_ | refine ZB tm sp ?_ | refine ZH ?_ ?_ | refine ZJ (by conv=>lhs; simp [c1,c2,c3,d1,d2,d3,d4,e2',nf1,nf2,nf3]) ?_ | refine ZA ?_ ?_)
       refine ⟨(.agg (Ox.cells ⟨id,7,0,[],[],0,0,0,0,[],bs.map byte,z64.map byte,a,_,0,[]⟩),[diceB e6]),⟨_,e6,mkOK hid (hb0:=rwOK_bytes hb) (hb1:=rwOK_bytes (by decide)) (hc0:=wfs a0 (by omega)) (hc1:=wfs k1 k2),rfl⟩, ?_⟩
       refine RetB.mk true [0] rfl (by conv=>lhs; simp) (by conv=>lhs; simp) (by decide) (by rintro j hj; have hj : j < 1:=hj; rcases (show j = 0 by omega) with rfl; exact ⟨rfl,by simp⟩) (by simp [diceB]) (by simp [Ox.cells,z64_eq,List.replicate])
 · have hu : (u == 4) = false:=by simpa using hu
   rcases hb' with ⟨rfl,rfl⟩ | ⟨rfl,rfl⟩
   all_goals
     repeat' (first | intro (hb : _ = _) | refine ZV ?_ | refine ZB tm sp ?_ | refine ZH ?_ ?_ | refine ZJ (by conv=>lhs; simp [c1,c2,c3,d1,d2,d3,e2',hu]) ?_ | refine ZA ?_ ?_)
     refine ⟨(.agg (Ox.cells ⟨id,7,0,[],[],0,0,0,0,[],bs.map byte,bt.map byte,a,_,0,[]⟩),[diceB e5]),⟨_,e5,mkOK hid (hb0:=rwOK_bytes hb) (hb1:=rwOK_bytes ht) (hc0:=wfs a0 (by omega)) (hc1:=wfs k1 k2),rfl⟩, ?_⟩
     exact RetB.raw [0] rfl (by conv=>lhs; simp) (by decide) (by rintro j hj; have hj : j < 1:=hj; rcases (show j = 0 by omega) with rfl; exact ⟨rfl,by simp⟩) (by simp [diceB]) (by simp [Ox.cells])
end
section
attribute [local simp] instA slice3A slice3C makeSliceA
attribute [-simp] mkv
attribute [local simp] mkv_hd hdA_cons hdA_ob hdA_ob' dc_specs
def prz : List AV := [.int .i64 0, .int .u64 0, .list 1 [], .list 4 [], .list 1 [], .int .i64 0, .int .i64 0, .int .i64 0, .int .i64 0, .int .i64 0, .int .i64 0, .int .i64 0, .int .i64 0, .int .i64 0, .int .i64 0, .list 2 [], .list 4 [], .int .i64 0, .int .i64 0, .int .i64 0]
noncomputable def blkS : SpecFn := mkS (fun _ : Unit => [.agg prz]) fun _ => (.bool true,[])
theorem blkS_eq : blkS [.agg prz] [] = some (.bool true,[]) := mkS_eq (enc := fun _ : Unit => [AV.agg prz]) (fun _ _ _ => rfl) ()
theorem tgCpuZ : Tryz.prog.eqGuardType Tryz.prog.depth 34 = false := by kernel_rfl
theorem eqCpuZ : eqV Tryz.prog 9 34 (.agg (List.replicate 9 (.int .i64 0))) (.agg (List.replicate 9 (.int .i64 0))) = some true := by kernel_rfl
theorem eqlCpuZ : eqlA Tryz.prog .eql 34 (.agg [.int .i64 0, .int .i64 0, .int .i64 0, .int .i64 0, .int .i64 0, .int .i64 0, .int .i64 0, .int .i64 0, .int .i64 0]) (.agg [.int .i64 0, .int .i64 0, .int .i64 0, .int .i64 0, .int .i64 0, .int .i64 0, .int .i64 0, .int .i64 0, .int .i64 0]) = .ret (.bool true) := by
 have:=eqCpuZ
 simp only [List.replicate] at this
 simp [eqlA,tgCpuZ,this]
theorem blk_ok : FnC Tryz.prog 102 blkS := by
 refine FnC.walk 102 (fn:=Tryz.f102) Tryz.func102 rfl (by kernel_rfl) fun d=>?_
 change W _ (Ret _ _ (.bool true) []) _ _ ⟨70,[(0, .agg prz)],[]⟩
 simp only [prz]
 repeat' (first | intro (hb : _ = _) | refine ZV ?_ | refine ZB tm no_specs ?_ | refine ZH ?_ ?_ | refine ZJ (by conv=>lhs; simp [eqlCpuZ]) ?_ | refine ZA ?_ ?_)
 all_goals (first | refine Yd ?_ | refine Ye ?_)
 all_goals (first | rfl | (simp; done) | (simp_all; done) | (simp_all; omega))
noncomputable def barS : SpecFn := mkS (fun d : Int × Int => [.agg (oxz d.1 d.2 0).cells]) fun _ => (.bool true,[])
theorem barS_eq (id k : Int) : barS [.agg (oxz id k 0).cells] [] = some (.bool true,[]) :=
 mkS_eq (enc:=fun d : Int × Int=>[AV.agg (oxz d.1 d.2 0).cells]) (fun x y _=>rfl) (id,k)
noncomputable def bar_specs : NL Spec := [(102,⟨1,blkS⟩)]
theorem bar_specs_ok : ∀ p ∈ bar_specs,FnC Tryz.prog p.1 p.2.fn := by
 simp only [bar_specs,List.mem_cons,List.not_mem_nil,or_false]
 rintro p rfl
 exact blk_ok
attribute [local simp] bar_specs
theorem bar_ok : FnC Tryz.prog 93 barS := by
 refine FnC.walk 93 (fn:=Tryz.f93) Tryz.func93 rfl (by kernel_rfl) fun d=>?_
 obtain ⟨id,k⟩:=d
 change W _ (Ret _ _ (.bool true) []) _ _ ⟨80,[(0, .agg (oxz id k 0).cells)],[]⟩
 have c1:=blkS_eq
 have c2:=eql2 0 0
 simp only [prz] at c1
 simp only [oxz,Ox.cells]
 repeat' (first | intro (hb : _ = _) | refine ZV ?_ | refine ZB tm bar_specs_ok ?_ | refine ZH ?_ ?_ | refine ZJ (by conv=>lhs; simp [c1,c2]) ?_ | refine ZA ?_ ?_)
 all_goals (first | refine Yd ?_ | refine Ye ?_)
 all_goals (first | rfl | (simp; done) | (simp_all; done) | (simp_all; omega))
noncomputable def v17S : SpecFn := mkS (fun id : Int => [.agg (o17 id).cells]) fun id => (.bool (id != 0),[])
theorem v17S_eq (id : Int) : v17S [.agg (o17 id).cells] [] = some (.bool (id != 0),[]) :=
 mkS_eq (enc:=fun id : Int=>[AV.agg (o17 id).cells]) (fun x y h=>by
   simp only [o17,Ox.cells,List.cons.injEq,AV.agg.injEq,AV.int.injEq,true_and,and_true] at h
   rw [h]) id
noncomputable def v17_specs : NL Spec := [(93,⟨1,barS⟩)]
theorem v17_specs_ok : ∀ p ∈ v17_specs,FnC Tryz.prog p.1 p.2.fn := by
 simp only [v17_specs,List.mem_cons,List.not_mem_nil,or_false]
 rintro p rfl
 exact bar_ok
attribute [local simp] v17_specs
theorem v17_ok : FnC Tryz.prog 80 v17S := by
 refine FnC.walk 80 (fn:=Tryz.f80) Tryz.func80 rfl (by kernel_rfl) fun id=>?_
 change W _ (Ret _ _ (.bool (id != 0)) []) _ _ ⟨18,[(0, .agg (o17 id).cells)],[]⟩
 have c1:=barS_eq id 9
 simp only [oxz,Ox.cells] at c1
 simp only [o17,Ox.cells]
 cases h : (id != 0)
 · repeat' (first | intro (hb : _ = _) | refine ZV ?_ | refine ZB tm v17_specs_ok ?_ | refine ZH ?_ ?_ | refine ZJ (by conv=>lhs; simp [c1,h]) ?_ | refine ZA ?_ ?_)
   all_goals (first | refine Yd ?_ | refine Ye ?_)
   all_goals (first | rfl | (simp; done) | (simp_all; done) | (simp_all; omega))
 · repeat' (first | intro (hb : _ = _) | refine ZV ?_ | refine ZB tm v17_specs_ok ?_ | refine ZH ?_ ?_ | refine ZJ (by conv=>lhs; simp [c1,h]) ?_ | refine ZA ?_ ?_)
   all_goals (first | refine Yd ?_ | refine Ye ?_)
   all_goals (first | rfl | (simp; done) | (simp_all; done) | (simp_all; omega))
end
section
attribute [local simp] instA slice3A slice3C makeSliceA
attribute [-simp] mkv
attribute [local simp] mkv_hd hdA_cons hdA_ob hdA_ob' dc_specs
theorem wf_wrap {w : Int} (h : (Lit.int .i64 w).wf = true) : IntKind.i64.wrap w = w := by
 simp only [Lit.wf,IntKind.min,IntKind.max,IntKind.signed,IntKind.bits] at h
 simp at h
 exact w64 (by omega) (by omega)
def r17 (id w : Int) : Ox := if id = 0 then oxz 0 0 0 else ⟨id,9,0,[],[],0,0,0,0,[],[],[],0,0,w,[]⟩
def e17 (id : Int) : Int := if id = 0 then 1 else 0
theorem r17_ok {id w : Int} (h : (Lit.int .u64 id).wf = true) (hw : (Lit.int .i64 w).wf = true) : (r17 id w).OK := by
 unfold r17
 split
 · exact mkOK (by decide)
 · exact mkOK h (hs:=hw)
theorem o13_ok {id n : Int} (h : (Lit.int .u64 id).wf = true) (h0 : 0 ≤ n) (h1 : n ≤ 100) : (o13 id n).OK := by
 unfold o13
 split
 · exact mkOK (by decide)
 · exact mkOK h (hs:=wfs h0 (by omega))
abbrev IdW := {x : Int × Int // (Lit.int .i64 x.2).wf = true}
noncomputable def d17S : SpecFn := mkS (fun d : IdW => [.agg (o17 d.1.1).cells, .int .i64 d.1.2]) fun d => (.tup [.int .i64 0, .agg (r17 d.1.1 d.1.2).cells, .int .i64 (e17 d.1.1)],[])
theorem d17S_eq (id w : Int) (h : (Lit.int .i64 w).wf = true) : d17S [.agg (o17 id).cells, .int .i64 w] [] = some (.tup [.int .i64 0, .agg (r17 id w).cells, .int .i64 (e17 id)],[]) :=
 mkS_eq (enc:=fun d : IdW=>[AV.agg (o17 d.1.1).cells, .int .i64 d.1.2]) (res:=fun d=>(.tup [.int .i64 0, .agg (r17 d.1.1 d.1.2).cells, .int .i64 (e17 d.1.1)],[])) (fun x y h=>by
   simp only [o17,Ox.cells,List.cons.injEq,AV.agg.injEq,AV.int.injEq,true_and,and_true] at h
   rw [h.1,h.2]) ⟨(id,w),h⟩
theorem oxu_nrm (id k n p6 i7 p8 p9 c0 c1 s e v : Int) : nrmR Tryz.prog [2,44,56] (.tup [.int .i64 v, .agg [.int .u64 id, .int .i64 k, .int .i64 n, .int .i64 0, .int .u64 0, .nils, .nils, .nils, .int .i64 0, .int .i64 0, .int .i64 0, .int .i64 0, .int .i64 0, .int .i64 0, .int .i64 0, .int .i64 0, .int .i64 0, .int .i64 0, .nils, .nils, .int .i64 0, .int .i64 0, .int .i64 0, .nils, .nils, .int .i64 p6, .int .u64 i7, .int .i64 p8, .int .i64 p9, .nils, .nils, .nils, .int .i64 c0, .int .i64 c1, .int .i64 s, .nils], .int .i64 e]) = .tup [.int .i64 v, .agg (Ox.cells ⟨id,k,n,[],[],p6,i7,p8,p9,[],[],[],c0,c1,s,[]⟩), .int .i64 e] := by kernel_rfl
theorem oxu_id (id k n p6 i7 p8 p9 c0 c1 s e v : Int) : nrmR Tryz.prog [2,44,56] (.tup [.int .i64 v, .agg (Ox.cells ⟨id,k,n,[],[],p6,i7,p8,p9,[],[],[],c0,c1,s,[]⟩), .int .i64 e]) = .tup [.int .i64 v, .agg (Ox.cells ⟨id,k,n,[],[],p6,i7,p8,p9,[],[],[],c0,c1,s,[]⟩), .int .i64 e] := by kernel_rfl
noncomputable def d17_specs : NL Spec := [(80,⟨1,v17S⟩)]
theorem d17_specs_ok : ∀ p ∈ d17_specs,FnC Tryz.prog p.1 p.2.fn := by
 simp only [d17_specs,List.mem_cons,List.not_mem_nil,or_false]
 rintro p rfl
 exact v17_ok
attribute [local simp] d17_specs
theorem d17_ok : FnC Tryz.prog 52 d17S := by
 refine FnC.walkN 52 (fn:=Tryz.f52) [2,44,56] Tryz.func52 rfl (by kernel_rfl) (fun d=>?_) (fun d=>⟨.tup [.int .i64 0, .agg (r17 d.1.1 d.1.2).cells, .int .i64 (e17 d.1.1)],by
   unfold r17
   split
   · exact oxu_id 0 0 0 0 0 0 0 0 0 0 _ 0
   · exact oxu_id _ 9 0 0 0 0 0 0 0 _ _ 0⟩)
 obtain ⟨⟨id,w⟩,hw⟩:=d
 dsimp only at hw
 change W _ (RetNf _ _ _ (.tup [.int .i64 0, .agg (r17 id w).cells, .int .i64 (e17 id)]) []) _ _ ⟨21,[(0, .agg (o17 id).cells),(1, .int .i64 w)],[]⟩
 have c1:=v17S_eq id
 have hx:=wf_wrap hw
 by_cases h : id = 0
 · subst h
   simp only [o17,Ox.cells] at c1 ⊢
   repeat' (first | intro (hb : _ = _) | refine ZV ?_ | refine ZB tm d17_specs_ok ?_ | refine ZH ?_ ?_ | refine ZJ (by conv=>lhs; simp [c1]) ?_ | refine ZA ?_ ?_)
   refine Ye ?_
   exact oxu_nrm 0 0 0 0 0 0 0 0 0 0 1 0
 · have hz : (id != 0) = true:=by simpa using h
   rw [r17,e17,if_neg h,if_neg h]
   rw [hz] at c1
   simp only [o17,Ox.cells] at c1 ⊢
   repeat' (first | intro (hb : _ = _) | refine ZV ?_ | refine ZB tm d17_specs_ok ?_ | refine ZH ?_ ?_ | refine ZJ (by conv=>lhs; simp [c1,hx]) ?_ | refine ZA ?_ ?_)
   refine Ye ?_
   exact oxu_id id 9 0 0 0 0 0 0 0 w 0 0
end
section
attribute [local simp] instA slice3A slice3C makeSliceA
attribute [-simp] mkv
attribute [local simp] mkv_hd hdA_cons hdA_ob hdA_ob'
def wC (v : Int) : List AV := [.int .i64 v]
def wdB (g : Nat) (l : List Int) : ABlk := { gen := g,kind := 2,elem := 2,size := 1,inl := true,rows := l.map wC }
def o06C (id : Int) (a : AV) : List AV := [.int .u64 id, .int .i64 2, .int .i64 0, .int .i64 0, .int .u64 0, .list 1 [], .list 4 [], .list 1 [], .int .i64 0, .int .i64 0, .int .i64 0, .int .i64 0, .int .i64 0, .int .i64 0, .int .i64 0, .int .i64 0, .int .i64 0, .int .i64 0, .list 2 [], .list 4 [], .int .i64 0, .int .i64 0, .int .i64 0,a, .list 1 [], .int .i64 0, .int .u64 0, .int .i64 0, .int .i64 0, .list 1 [], .list 1 [], .list 1 [], .int .i64 0, .int .i64 0, .int .i64 0, .list 3 []]
def z16 : List Int := [0,0,0,0,0,0,0,0,0,0,0,0,0,0,0,0]
theorem z16_wf : ∀ v ∈ z16,(Lit.int .i64 v).wf = true := by decide
noncomputable def n06S : SpecFn := mkS2 (fun id : Int => ([.int .u64 id],[])) fun id => (.agg (o06C id (.sl 0 0 0 16)),[wdB 0 z16])
theorem n06S_eq (id : Int) : n06S [.int .u64 id] [] = some (.agg (o06C id (.sl 0 0 0 16)),[wdB 0 z16]) :=
 mkS2_eq (enc:=fun id : Int=>([AV.int .u64 id],([] : List ABlk))) (res:=fun id=>(.agg (o06C id (.sl 0 0 0 16)),[wdB 0 z16])) (fun x y h=>by
   simp only [Prod.mk.injEq,List.cons.injEq,AV.int.injEq,true_and,and_true] at h
   rw [h]) id
theorem o06C_id (id : Int) (g : Nat) : nrmR Tryz.prog [44] (.agg (o06C id (.sl 0 g 0 16))) = .agg (o06C id (.sl 0 g 0 16)) := by kernel_rfl
theorem n06b_ok : FnC Tryz.prog 73 n06S := by
 refine FnC.walkBN 73 (fn:=Tryz.f73) [44] Tryz.func73 rfl (by kernel_rfl) (fun x b hb=>by simp at hb) (fun id=>?_) (fun id=>⟨_,o06C_id id 0⟩)
 change W _ (RetBN _ _ _ 0 (.agg (o06C id (.sl 0 0 0 16))) [wdB 0 z16]) _ _ ⟨6,[(0, .int .u64 id)],[]⟩
 obtain ⟨nf,nf1,nf2,nf3⟩:=nf8_ex
 repeat' (first | intro (hb : _ = _) | refine ZV ?_ | refine ZB tm no_specs ?_ | refine ZH ?_ ?_ | refine ZJ (by conv=>lhs; simp [nf1,nf2,nf3]) ?_ | refine ZA ?_ ?_)
 refine RetBN.dataE false [80] rfl (by conv=>lhs; simp) (by conv=>lhs; simp) (by decide) (by intro i hi; omega) (by simp [wdB,z16,wC]) (by simp; rfl) ?_
 kernel_rfl
theorem pag_ex : ∃ S,FnC Tryz.prog 45 S ∧ ∀ x, ∃ r,S (encDI x).1 (encDI x).2 = some r ∧ OxP x r := by
 obtain ⟨SW,hSW,hSWe⟩:=wd_ex
 have sp : ∀ p ∈ ([(73,⟨3,n06S⟩),(54,⟨3,SW⟩)] : NL Spec),FnC Tryz.prog p.1 p.2.fn:=by
   simp only [List.mem_cons,List.not_mem_nil,or_false]
   rintro p (rfl | rfl)
   · exact n06b_ok
   · exact hSW
 refine FnC.existsB 45 (fn:=Tryz.f45) Tryz.func45 rfl (by kernel_rfl) (fun x b hb=>by simp [encDI] at hb; rw [hb]; rfl) encDI_inj OxP.ne fun x=>?_
 obtain ⟨⟨ds,id⟩,hid⟩:=x
 dsimp only at hid
 change W _ _ _ _ ⟨23,[(0, .ptr 0 0 0 0),(1, .int .u64 id)],[(0,diceB ds)]⟩
 have c1:=n06S_eq id
 simp only [o06C,wdB] at c1
 simp only [diceB]
 repeat' (first | intro (hb : _ = _) | refine ZV ?_ | refine ZB tm sp ?_ | refine ZH ?_ ?_ | refine ZJ (by conv=>lhs; simp [c1]) ?_ | refine ZA ?_ ?_)
 refine W.loop rfl (ι:={ q : Nat × List Int × List UInt8 × NL ABlk // q.1 ≤ 16 ∧ q.2.1.length = 16 ∧ (∀ v ∈ q.2.1,(Lit.int .i64 v).wf = true) ∧ lk q.2.2.2 0 = some (diceB q.2.2.1) ∧ lk q.2.2.2 80 = some { gen:=1,kind:=2,elem:=44,size:=36,inl:=false,rows:=[zO] } ∧ lk q.2.2.2 96 = some { gen:=1,kind:=2,elem:=44,size:=36,inl:=false,rows:=[o06C id (.sl 144 1 0 16)] } ∧ lk q.2.2.2 144 = some (wdB 1 q.2.1) })
   (fun q=>⟨23,[(0, .ptr 0 0 0 0),(4, .ptr 80 1 0 0),(5, .ptr 96 1 0 0),(11, .int .i64 16),(12, .int .i64 (q.1.1 : Nat))],q.1.2.2.2⟩) (fun q=>16 - q.1.1)
   ⟨(0,z16,ds,_),by simp,rfl,z16_wf,by simp [lk,lk_st,diceB],by simp [lk,lk_st,zO],by simp [lk,lk_st,o06C],by simp [lk,lk_st,wdB]⟩ (AS.le_of rfl ⟨rfl,rfl,rfl,rfl,rfl,trivial⟩ (fun _=>rfl)) ?_
 clear c1
 rintro ⟨⟨k,T,e,H⟩,hk,hT,hv,h0,h4,h5,hw⟩
 dsimp only at hk hT hv h0 h4 h5 hw ⊢
 simp only [diceB,wdB,o06C,zO] at h0 h4 h5 hw
 by_cases hk2 : k = 16
 · subst hk2
   have q1 : ¬ (16 : Int) < 16:=by omega
   have tT : List.take 16 (T.map wC) = T.map wC:=List.take_of_length_le (by simp [hT])
   repeat' (first | intro (hb : _ = _) | refine ZV ?_ | refine ZB tm sp ?_ | refine ZH ?_ ?_ | refine ZJ (by conv=>lhs; simp [h0,h4,h5,hw,q1]) ?_ | refine ZA ?_ ?_)
   refine ⟨(.agg (Ox.cells ⟨id,2,0,T.map wC,[],0,0,0,0,[],[],[],0,0,0,[]⟩),[diceB e]),⟨_,e,mkOK hid (hw:=⟨by simp [hT],fun row hr=>by
     obtain ⟨v,hm,rfl⟩:=List.mem_map.1 hr
     exact tyInt (by kernel_rfl) (hv v hm),by
     clear hT hv tT hw
     induction T with
     | nil=>rfl
     | cons b r ih=>simp [bdRows,bdL,bdV,wC,ih]⟩),rfl⟩, ?_⟩
   refine RetB.mk true [0] rfl (by conv=>lhs; simp) (by conv=>lhs; simp [frqT,frqV,frqVs,frqL,frq1,frz1,AP.run,hw,lk_st,tT,hT]) (by decide) (by rintro j hj; have hj : j < 1:=hj; rcases (show j = 0 by omega) with rfl; exact ⟨rfl,by simp [lk_st,h0]⟩) (by simp [lk_st,h0,diceB]) (by simp [Ox.cells])
 · have hlt : k < 16:=by omega
   have q1 : (k : Int) < 16:=by omega
   have q2 : ¬ 16 ≤ k:=by omega
   have q3 : ¬ T.length ≤ k:=by omega
   have hwr : IntKind.i64.wrap ((k : Int) + 1) = ((k + 1 : Nat) : Int):=w64 (by omega) (by omega)
   obtain ⟨_,c2,v,e2,wv,rfl⟩:=hSWe e
   simp only [encD1] at c2
   simp only [diceB] at c2
   have hset : (T.map wC).set k [.int .i64 v] = (T.set k v).map wC:=by rw [List.map_set]; rfl
   have hv2 : ∀ x ∈ T.set k v,(Lit.int .i64 x).wf = true:=fun x hx=>by
     rcases List.mem_or_eq_of_mem_set hx with hx | rfl
     · exact hv x hx
     · exact wv
   obtain ⟨old,ho⟩ : ∃ o,(T.map wC)[k]? = some [o]:=by
     obtain ⟨y,hy⟩:=get_lt (l:=T) (i:=k) (by omega)
     exact ⟨.int .i64 y,by rw [List.getElem?_map,hy]; rfl⟩
   have hl2 : (T.set k v).length = 16:=by simp [hT]
   repeat' (first | intro (hb : _ = _) | refine ZV ?_ | refine ZB tm sp ?_ | refine ZH ?_ ?_ | refine ZJ (by conv=>lhs; simp [q1,q2,q3,h0,h4,h5,hw,c2,hwr,hset,ho,hT]) ?_ | refine ZA ?_ ?_)
   exact ⟨⟨(k + 1,T.set k v,e2,_),hlt,hl2,hv2,by simp [lk_st,h0,diceB],by simp [lk_st,h4,zO],by simp [lk_st,h5,o06C],by simp [lk_st,wdB]⟩,by dsimp only; omega,AS.le_of rfl ⟨rfl,rfl,rfl,rfl,rfl,trivial⟩ (fun _=>rfl)⟩
end
section
attribute [local simp] instA slice3A slice3C makeSliceA
attribute [-simp] mkv
attribute [local simp] mkv_hd hdA_cons hdA_ob hdA_ob'
theorem idV_wfz (l : List UInt8) : (Lit.int .u64 (idV l)).wf = true := by
 unfold idV mk3
 generalize ((IntKind.u64.wrap ↑((IntKind.u64.wrap (IntKind.u64.wrap (dn l 3) * 2 ^ min 56 IntKind.u64.bits) % 2 ^ IntKind.u64.bits).toNat ||| (IntKind.u64.wrap (IntKind.u64.wrap (dn (d1 l) 2) * 2 ^ min 40 IntKind.u64.bits) % 2 ^ IntKind.u64.bits).toNat) % 2 ^ IntKind.u64.bits).toNat ||| (IntKind.u64.wrap (1 + dn (d2 l) 9) % 2 ^ IntKind.u64.bits).toNat) = x
 simp only [Lit.wf,IntKind.wrap,IntKind.min,IntKind.max,IntKind.signed,IntKind.bits]
 simp
 omega
def uX (v : Int) : List AV := [.int .u64 v]
theorem uC_inj {a b : Int} (h : uX a = uX b) : a = b := by simpa [uX] using h
abbrev Ul := {l : List Int // l.length ≤ 9000}
end
section
attribute [local simp] instA slice3A slice3C makeSliceA
attribute [-simp] mkv
attribute [local simp] mkv_hd hdA_cons hdA_ob hdA_ob'
theorem bdRows_uC (L : List Int) : bdRows 10000 (L.map uX) = true := by
 induction L with
 | nil=>rfl
 | cons b r ih=>simp [bdRows,bdL,bdV,uX,ih]
def uB (l : List Int) : ABlk := { gen := 0,kind := 2,elem := 26,size := 1,inl := true,rows := l.map uX }
def encHB (d : Ul × Int) : List AV × List ABlk := ([.sl 0 0 0 d.1.1.length, .int .u64 d.2],[uB d.1.1])
noncomputable def hbS : SpecFn := mkS2 encHB fun d => (.bool (d.1.1.contains d.2),[uB d.1.1])
theorem hbS_eq (l : List Int) (h : l.length ≤ 9000) (x : Int) : hbS [.sl 0 0 0 l.length, .int .u64 x] [uB l] = some (.bool (l.contains x),[uB l]) :=
 mkS2_eq (enc:=encHB) (res:=fun d=>(.bool (d.1.1.contains d.2),[uB d.1.1])) (fun a b h=>by
   simp only [encHB,uB,Prod.mk.injEq,List.cons.injEq,ABlk.mk.injEq,AV.int.injEq,true_and,and_true] at h
   obtain ⟨⟨-,h2⟩,h1⟩:=h
   have h1:=map_inj (fun a b h=>uC_inj h) h1
   rw [h1,h2]) (⟨l,h⟩,x)
theorem hb_ok : FnC Tryz.prog 78 hbS := by
 refine FnC.walkB 78 (fn:=Tryz.f78) Tryz.func78 rfl (by kernel_rfl) (fun x b hb=>by simp [encHB] at hb; rw [hb]; rfl) fun d=>?_
 obtain ⟨⟨l,hl⟩,x⟩:=d
 change W _ (RetB _ _ 1 (.bool (l.contains x)) [uB l]) _ _ ⟨17,[(0, .sl 0 0 0 l.length),(1, .int .u64 x)],[(0,uB l)]⟩
 have cap : l.length ≤ 9223372036854775807:=by omega
 simp only [uB]
 repeat' (first | intro (hb : _ = _) | refine ZV ?_ | refine ZB tm no_specs ?_ | refine ZH ?_ ?_ | refine ZJ (by conv=>lhs; simp [cap]) ?_ | refine ZA ?_ ?_)
 refine W.loop rfl (ι:={ q : Nat × NL ABlk // q.1 ≤ l.length ∧ (l.drop q.1).contains x = l.contains x ∧ lk q.2 0 = some (uB l) })
   (fun q=>⟨17,[(1, .int .u64 x),(7, .sl 0 0 0 l.length),(8, .int .i64 l.length),(9, .int .i64 (q.1.1 : Nat))],q.1.2⟩) (fun q=>l.length - q.1.1)
   ⟨(0,_),by simp,by simp,by simp [lk,uB]⟩ (AS.le_of rfl ⟨rfl,rfl,rfl,rfl,trivial⟩ (fun _=>rfl)) ?_
 rintro ⟨⟨k,H⟩,hk,hc,h0⟩
 dsimp only at hk hc h0 ⊢
 simp only [uB] at h0
 rw [← hc]
 by_cases hk2 : k = l.length
 · subst hk2
   rw [List.drop_length]
   have q1 : ¬ (l.length : Int) < l.length:=by omega
   repeat' (first | intro (hb : _ = _) | refine ZV ?_ | refine ZB tm no_specs ?_ | refine ZH ?_ ?_ | refine ZJ (by conv=>lhs; simp [q1]) ?_ | refine ZA ?_ ?_)
   exact RetB.raw [0] rfl (by conv=>lhs; simp) (by decide) (by rintro j hj; have hj : j < 1:=hj; rcases (show j = 0 by omega) with rfl; exact ⟨rfl,by simp [lk_st,h0]⟩) (by simp [lk_st,h0]) (by simp)
 · have hlt : k < l.length:=by omega
   obtain ⟨t,hr⟩:=get_lt hlt
   have hm : (l.map uX)[k]? = some [.int .u64 t]:=by rw [List.getElem?_map,hr]; rfl
   have q1 : (k : Int) < l.length:=by omega
   have q2 : ¬ l.length ≤ k:=by omega
   have hw : IntKind.i64.wrap ((k : Int) + 1) = ((k + 1 : Nat) : Int):=w64 (by omega) (by omega)
   have hd : l.drop k = t :: l.drop (k + 1):=by
     obtain ⟨h1,h2⟩:=List.getElem?_eq_some_iff.1 hr
     rw [List.drop_eq_getElem_cons h1,h2]
   rw [hd,List.contains_cons] at hc ⊢
   cases hz : (t == x) with
   | true =>
     have hz2 : (x == t) = true:=by rw [beq_iff_eq] at hz ⊢; exact hz.symm
     rw [hz2]
     clear hc
     repeat' (first | intro (hb : _ = _) | refine ZV ?_ | refine ZB tm no_specs ?_ | refine ZH ?_ ?_ | refine ZJ (by conv=>lhs; simp [q1,q2,hm,hz,h0]) ?_ | refine ZA ?_ ?_)
     exact RetB.raw [0] rfl (by conv=>lhs; simp) (by decide) (by rintro j hj; have hj : j < 1:=hj; rcases (show j = 0 by omega) with rfl; exact ⟨rfl,by simp [lk_st,h0]⟩) (by simp [lk_st,h0]) (by simp)
   | false =>
     have hz2 : (x == t) = false:=by rw [beq_eq_false_iff_ne] at hz ⊢; exact fun h=>hz h.symm
     rw [hz2,Bool.false_or] at hc ⊢
     rw [hc]
     repeat' (first | intro (hb : _ = _) | refine ZV ?_ | refine ZB tm no_specs ?_ | refine ZH ?_ ?_ | refine ZJ (by conv=>lhs; simp [q1,q2,hm,hz,hw,h0]) ?_ | refine ZA ?_ ?_)
     exact ⟨⟨(k + 1,_),hlt,hc,by simp [lk_st,h0,uB]⟩,by dsimp only; omega,AS.le_of rfl ⟨rfl,rfl,rfl,rfl,trivial⟩ (fun _=>rfl)⟩
def rawP (id n : Int) (a : AV) : List AV := [.int .u64 id, .int .i64 6, .int .i64 n, .int .i64 0, .int .u64 0, .nils, .nils, .nils, .int .i64 0, .int .i64 0, .int .i64 0, .int .i64 0, .int .i64 0, .int .i64 0, .int .i64 0, .int .i64 0, .int .i64 0, .int .i64 0, .nils, .nils, .int .i64 0, .int .i64 0, .int .i64 0, .nils, .nils, .int .i64 0, .int .u64 0, .int .i64 0, .int .i64 0,a, .nils, .nils, .int .i64 0, .int .i64 0, .int .i64 0, .nils]
def pC' (id n : Int) (a : AV) : List AV := [.int .u64 id, .int .i64 6, .int .i64 n, .int .i64 0, .int .u64 0, .list 1 [], .list 4 [], .list 1 [], .int .i64 0, .int .i64 0, .int .i64 0, .int .i64 0, .int .i64 0, .int .i64 0, .int .i64 0, .int .i64 0, .int .i64 0, .int .i64 0, .list 2 [], .list 4 [], .int .i64 0, .int .i64 0, .int .i64 0, .list 1 [], .list 1 [], .int .i64 0, .int .u64 0, .int .i64 0, .int .i64 0,a, .list 1 [], .list 1 [], .int .i64 0, .int .i64 0, .int .i64 0, .list 3 []]
theorem rawP_nrm (id n : Int) (b g o k : Nat) : nrmL Tryz.prog (leafs Tryz.prog 44) (rawP id n (.sl b g o k)) = pC' id n (.sl b g o k) := by kernel_rfl
noncomputable def n12rS : SpecFn := mkS (fun id : Int => [.int .u64 id]) fun id => (.agg (rawP id 1 .nils),[])
theorem n12rS_eq (id : Int) : n12rS [.int .u64 id] [] = some (.agg (rawP id 1 .nils),[]) :=
 mkS_eq (enc:=fun id : Int=>[AV.int .u64 id]) (res:=fun id=>(.agg (rawP id 1 .nils),[])) (fun x y h=>by
   simp only [List.cons.injEq,AV.int.injEq,true_and,and_true] at h
   rw [h]) id
theorem n12r_ok : FnC Tryz.prog 77 n12rS := by
 refine FnC.walk 77 (fn:=Tryz.f77) Tryz.func77 rfl (by kernel_rfl) fun id=>?_
 change W _ (Ret _ _ (.agg (rawP id 1 .nils)) []) _ _ ⟨5,[(0, .int .u64 id)],[]⟩
 repeat' (first | intro (hb : _ = _) | refine ZV ?_ | refine ZB tm no_specs ?_ | refine ZH ?_ ?_ | refine ZJ (by conv=>lhs; simp) ?_ | refine ZA ?_ ?_)
 all_goals (first | refine Yd ?_ | refine Ye ?_)
 all_goals (first | rfl | (simp [rawP]; done) | (simp_all [rawP]; done) | (simp_all [rawP]; omega))
theorem por_ex : ∃ S,FnC Tryz.prog 49 S ∧ ∀ x, ∃ r,S (encDI x).1 (encDI x).2 = some r ∧ OxP x r := by
 have sp : ∀ p ∈ ([(77,⟨1,n12rS⟩),(8,⟨3,diceS⟩),(25,⟨3,idS⟩),(78,⟨3,hbS⟩)] : NL Spec),FnC Tryz.prog p.1 p.2.fn:=by
   simp only [List.mem_cons,List.not_mem_nil,or_false]
   rintro p (rfl | rfl | rfl | rfl)
   · exact n12r_ok
   · exact dice_ok
   · exact id_ok
   · exact hb_ok
 refine FnC.existsB 49 (fn:=Tryz.f49) Tryz.func49 rfl (by kernel_rfl) (fun x b hb=>by simp [encDI] at hb; rw [hb]; rfl) encDI_inj OxP.ne fun x=>?_
 obtain ⟨⟨ds,id⟩,hid⟩:=x
 dsimp only at hid
 change W _ _ _ _ ⟨39,[(0, .ptr 0 0 0 0),(1, .int .u64 id)],[(0,diceB ds)]⟩
 have c1:=n12rS_eq id
 have d1':=diceS_eq ds 3
 have d2':=diceS_eq (dl ds 3) 10
 have a0:=dn_nonneg ds 3
 have a1:=dn_lt ds (n:=3) (by omega)
 have b0:=dn_nonneg (dl ds 3) 10
 have b1:=dn_lt (dl ds 3) (n:=10) (by omega)
 generalize dl ds 3 = e1 at *
 generalize dl e1 10 = e2 at *
 generalize dn ds 3 = a at *
 obtain ⟨kk,hkk⟩ : ∃ k : Nat,dn e1 10 = k:=⟨_,(Int.toNat_of_nonneg b0).symm⟩
 rw [hkk] at d2' b1
 clear hkk b0
 simp only [diceB] at d1' d2' ⊢
 simp only [rawP] at c1
 repeat' (first | intro (hb : _ = _) | refine ZV ?_ | refine ZB (id:=0) tm sp ?_ | refine ZB (id:=1) tm sp ?_ | refine ZB (id:=2) tm sp ?_ | refine ZB (id:=3) tm sp ?_ | refine ZH ?_ ?_ | refine ZJ (by conv=>lhs; simp [c1,d1',d2']) ?_ | refine ZA ?_ ?_)
 refine W.phR 96 0 29 20000 26 1 true (by simp [lk_st]; rfl) rfl rfl rfl rfl (by simp [lk,lk_st]) (by decide) ?_
 refine W.nrmB 96 (leafs Tryz.prog 44) (by rw [lk_st,if_pos rfl]) rfl ?_
 have hn : List.map (nrmL Tryz.prog (leafs Tryz.prog 44)) [rawP id a (.sl 20000 0 0 0)] = [pC' id a (.sl 20000 0 0 0)]:=by rw [List.map_cons,List.map_nil,rawP_nrm]
 simp only [rawP,pC'] at hn
 simp only [List.set_cons_zero,List.set_cons_succ,hn]
 refine W.loop rfl (ι:={ q : Nat × List Int × Nat × List UInt8 × NL ABlk // (q.1 ≤ 10 ∧ q.2.1.length ≤ 8) ∧ (∀ v ∈ q.2.1,(Lit.int .u64 v).wf = true) ∧ lk q.2.2.2.2 0 = some (diceB q.2.2.2.1) ∧ lk q.2.2.2.2 80 = some { gen:=1,kind:=2,elem:=44,size:=36,inl:=false,rows:=[zO] } ∧ lk q.2.2.2.2 96 = some { gen:=1,kind:=2,elem:=44,size:=36,inl:=false,rows:=[pC' id a (.sl 20000 q.2.2.1 0 q.2.1.length)] } ∧ lk q.2.2.2.2 20000 = some { gen:=q.2.2.1,kind:=2,elem:=26,size:=1,inl:=true,rows:=q.2.1.map uX } })
   (fun q=>⟨39,[(0, .ptr 0 0 0 0),(4, .ptr 80 1 0 0),(5, .ptr 96 1 0 0),(6, .int .i64 (q.1.1 : Nat))],q.1.2.2.2.2⟩) (fun q=>q.1.1)
   ⟨(kk,[],0,e2,_),⟨by dsimp only; omega,by simp⟩,by simp,by simp [lk,lk_st,diceB],by simp [lk,lk_st,zO],by simp [lk,lk_st,pC'],by simp [lk,lk_st]⟩ (AS.le_of rfl ⟨rfl,rfl,rfl,rfl,trivial⟩ (fun _=>rfl)) ?_
 clear c1 d1' d2' hn b1
 rintro ⟨⟨k,L,g,f,H⟩,⟨k10,h8⟩,hv,h0,h4,h5,hL⟩
 dsimp only at h8 hv h0 h4 h5 hL ⊢
 simp only [diceB,pC',zO] at h0 h4 h5
 have tT : List.take L.length (L.map uX) = L.map uX:=List.take_of_length_le (by simp)
 have cap : L.length ≤ 9223372036854775807:=by omega
 by_cases hend : k = 0 ∨ L.length = 8
 · have hq : (k = 0) ∨ ((0 : Int) < (k : Int) ∧ 0 < k ∧ ¬ (L.length : Int) < 8 ∧ ¬ L.length < 8):=by omega
   clear hend
   have ok : (Ox.OK ⟨id,6,a,[],[],0,0,0,0,L.map uX,[],[],0,0,0,[]⟩):=mkOK hid (hn:=wfs a0 (by omega)) (htl:=⟨by simp; omega,fun row hr=>by
     obtain ⟨v,hm,rfl⟩:=List.mem_map.1 hr
     exact tyInt (by kernel_rfl) (hv v hm),bdRows_uC L⟩)
   rcases hq with rfl | ⟨q1,q1',q2,q2'⟩
   · repeat' (first | intro (hb : _ = _) | refine ZV ?_ | refine ZB tm sp ?_ | refine ZH ?_ ?_ | refine ZJ (by conv=>lhs; simp [h0,h4,h5,hL,cap]) ?_ | refine ZA ?_ ?_)
     refine ⟨(.agg (Ox.cells ⟨id,6,a,[],[],0,0,0,0,L.map uX,[],[],0,0,0,[]⟩),[diceB f]),⟨_,f,ok,rfl⟩, ?_⟩
     refine RetB.mk true [0] rfl (by conv=>lhs; simp) (by conv=>lhs; simp [frqT,frqV,frqVs,frqL,frq1,frz1,AP.run,hL,lk_st,tT]) (by decide) (by rintro j hj; have hj : j < 1:=hj; rcases (show j = 0 by omega) with rfl; exact ⟨rfl,by simp [lk_st,h0]⟩) (by simp [lk_st,h0,diceB]) (by simp [Ox.cells])
   · repeat' (first | intro (hb : _ = _) | refine ZV ?_ | refine ZB tm sp ?_ | refine ZH ?_ ?_ | refine ZJ (by conv=>lhs; simp [h0,h4,h5,hL,q1,q1',q2,q2',cap]) ?_ | refine ZA ?_ ?_)
     refine ⟨(.agg (Ox.cells ⟨id,6,a,[],[],0,0,0,0,L.map uX,[],[],0,0,0,[]⟩),[diceB f]),⟨_,f,ok,rfl⟩, ?_⟩
     refine RetB.mk true [0] rfl (by conv=>lhs; simp) (by conv=>lhs; simp [frqT,frqV,frqVs,frqL,frq1,frz1,AP.run,hL,lk_st,tT]) (by decide) (by rintro j hj; have hj : j < 1:=hj; rcases (show j = 0 by omega) with rfl; exact ⟨rfl,by simp [lk_st,h0]⟩) (by simp [lk_st,h0,diceB]) (by simp [Ox.cells])
 · have q1 : (0 : Int) < (k : Int):=by omega
   have q1' : 0 < k:=by omega
   have q2 : (L.length : Int) < 8:=by omega
   have q2' : L.length < 8:=by omega
   have hw1 : IntKind.i64.wrap ((k : Int) - 1) = ((k - 1 : Nat) : Int):=by rw [w64 (by omega) (by omega)]; omega
   have ci:=idS_eq f
   have wi:=idV_wfz f
   generalize d3 f = f2 at *
   generalize idV f = v at *
   have ch:=hbS_eq L (by omega) v
   simp only [diceB] at ci
   simp only [uB] at ch
   cases hh : L.contains v with
   | true =>
     rw [hh] at ch
     repeat' (first | intro (hb : _ = _) | refine ZV ?_ | refine ZB tm sp ?_ | refine ZH ?_ ?_ | refine ZJ (by conv=>lhs; simp [h0,h4,h5,hL,q1,q1',q2,q2',ci,ch,tT,hw1,cap]) ?_ | refine ZA ?_ ?_)
     exact ⟨⟨(k - 1,L,g,f2,_),⟨by dsimp only; omega,h8⟩,hv,by simp [lk_st,diceB],by simp [lk_st,h4,zO],by simp [lk_st,h5,pC'],by simp [lk_st,hL]⟩,by dsimp only; omega,AS.le_of rfl ⟨rfl,rfl,rfl,rfl,trivial⟩ (fun _=>rfl)⟩
   | false =>
     rw [hh] at ch
     have hrow : L.map uX ++ [[.int .u64 v]] = (L ++ [v]).map uX:=by simp [uX]
     have hl2 : (L ++ [v]).length = L.length + 1:=by simp
     have y1 : L.length ≤ maxLen:=by simp only [maxLen]; omega
     have y2 : (L.length + 1) * 8 ≤ 140737488355328:=by omega
     have y4 : L.length + 1 ≤ maxLen:=by simp only [maxLen]; omega
     have fT : firstRows L.length (L.map uX) = L.map uX:=first_all (by simp)
     have m1 : (1 : Nat) ≤ maxLen:=by decide
     have hv2 : ∀ x ∈ L ++ [v],(Lit.int .u64 x).wf = true:=fun x hx=>by
       rcases List.mem_append.1 hx with hx | hx
       · exact hv x hx
       · rw [List.mem_singleton.1 hx]; exact wi
     generalize L ++ [v] = L2 at *
     repeat' (first | intro (hb : _ = _) | refine ZV ?_ | refine ZB tm sp ?_ | refine ZH ?_ ?_ | refine ZJ (by conv=>lhs; simp [h0,h4,h5,hL,q1,q1',q2,q2',ci,ch,tT,hw1,cap,y1,y2,y4,fT,m1,hrow]) ?_ | refine ZA ?_ ?_)
     exact ⟨⟨(k - 1,L2,g + 1,f2,_),⟨by dsimp only; omega,by dsimp only; omega⟩,hv2,by simp [lk_st,diceB],by simp [lk_st,h4,zO],by simp [lk_st,pC',hl2],by simp [lk_st]⟩,by dsimp only; omega,AS.le_of rfl ⟨rfl,rfl,rfl,rfl,trivial⟩ (fun _=>rfl)⟩
end
section
attribute [local simp] instA slice3A slice3C makeSliceA
attribute [-simp] mkv
attribute [local simp] mkv_hd hdA_cons hdA_ob hdA_ob'
structure Nm where
 s : ByteArray
 k : Int
 ids : List Int
 bd : ids.length ≤ 100
def Nm.c (n : Nm) : List AV := [.str n.s, .int .i64 n.k, .list 1 (n.ids.map uX)]
theorem Nm.c_inj {a b : Nm} (h : a.c = b.c) : a = b := by
 obtain ⟨s,k,l,hl⟩:=a
 obtain ⟨s',k',l',hl'⟩:=b
 simp only [Nm.c,List.cons.injEq,AV.str.injEq,AV.int.injEq,AV.list.injEq,true_and,and_true] at h
 obtain ⟨rfl,rfl,h⟩:=h
 cases map_inj (fun a b h=>uC_inj h) h
 rfl
noncomputable def cpmS : SpecFn := mkS (fun n : Nm => [.agg n.c]) fun n => (.agg n.c,[])
theorem cpmS_eq (n : Nm) : cpmS [.agg n.c] [] = some (.agg n.c,[]) :=
 mkS_eq (enc:=fun n : Nm=>[AV.agg n.c]) (res:=fun n=>(.agg n.c,[])) (fun a b h=>by
   simp only [List.cons.injEq,AV.agg.injEq,and_true] at h
   rw [Nm.c_inj h]) n
theorem uId : Tryz.prog.underlying 27 = some (.slice 26) := by kernel_rfl
theorem uC_nrm (v : Int) : nrmL Tryz.prog (leafs Tryz.prog 26) (uX v) = uX v := by
 rw [show leafs Tryz.prog 26 = [26] by kernel_rfl]
 simp [uX,nrmL,nrmV]
theorem nmLeafs : leafs Tryz.prog 72 = [9,3,27] := by kernel_rfl
theorem Nm.c_nrm (n : Nm) : nrmR Tryz.prog [72] (.agg n.c) = .agg n.c := by
 simp only [Nm.c,nrmR,nrmV,nmLeafs,nrmL,uId,nrmRows_map uC_nrm]
theorem cpm_ok : FnC Tryz.prog 104 cpmS := by
 refine FnC.walkN 104 (fn:=Tryz.f104) [72] Tryz.func104 rfl (by kernel_rfl) (fun n=>?_) (fun n=>⟨_,n.c_nrm⟩)
 obtain ⟨s,k,l,hl⟩:=n
 change W _ (RetNf _ _ _ (.agg (Nm.c ⟨s,k,l,hl⟩)) []) _ _ ⟨8,[(0, .agg (Nm.c ⟨s,k,l,hl⟩))],[]⟩
 have y1 : l.length ≤ maxLen:=by simp only [maxLen]; omega
 have y2 : l.length * 8 ≤ 140737488355328:=by omega
 have cap : l.length ≤ 9223372036854775807:=by omega
 have tT : List.take l.length (l.map uX) = l.map uX:=List.take_of_length_le (by simp)
 have nr:=Nm.c_nrm ⟨s,k,l,hl⟩
 simp only [Nm.c] at nr ⊢
 cases hz : l with
 | nil =>
   subst hz
   repeat' (first | intro (hb : _ = _) | refine ZV ?_ | refine ZB tm no_specs ?_ | refine ZH ?_ ?_ | refine ZJ (by conv=>lhs; simp) ?_ | refine ZA ?_ ?_)
   refine Ye ?_
   kernel_rfl
 | cons x r =>
   have h0 : ¬ l.length = 0:=by rw [hz]; simp
   have h1 : (l.length == 0) = false:=by simpa using h0
   rw [← hz]
   clear hz
   repeat' (first | intro (hb : _ = _) | refine ZV ?_ | refine ZB tm no_specs ?_ | refine ZH ?_ ?_ | refine ZJ (by conv=>lhs; simp [y1,y2,cap,tT,h0,h1]) ?_ | refine ZA ?_ ?_)
   refine Ye ?_
   rw [tT]
   exact nr
end
section
attribute [local simp] instA slice3A slice3C makeSliceA indexA
attribute [-simp] mkv
attribute [local simp] mkv_hd hdA_cons hdA_ob hdA_ob'
abbrev Sh := {s : ByteArray // s.size ≤ 10000}
theorem str_get {s : ByteArray} {i : Nat} (h : i < s.size) : ∃ b : UInt8,s[i]? = some b := ⟨s[i],by simp [h]⟩
theorem pth_ex : ∃ S,FnC Tryz.prog 103 S ∧ ∀ s : Sh, ∃ r,S [.str s.1] [] = some r ∧ ∃ b,r = (.bool b,[]) := by
 refine FnC.existsA (enc:=fun s : Sh=>[.str s.1]) (Pp:=fun _ r => ∃ b,r = (.bool b,[])) 103 (fn:=Tryz.f103) Tryz.func103 rfl (by kernel_rfl) (fun x y h=>by
   simp only [List.cons.injEq,AV.str.injEq,and_true] at h
   exact Subtype.ext h) (fun x=>⟨_,true,rfl⟩) fun x=>?_
 obtain ⟨s,hs⟩:=x
 change W _ _ _ _ ⟨72,[(0, .str s)],[]⟩
 have cap : s.size ≤ 9223372036854775807:=by omega
 by_cases h2 : s.size < 2
 · have q1 : (s.size : Int) < 2:=by omega
   repeat' (first | intro (hb : _ = _) | refine ZV ?_ | refine ZB tm no_specs ?_ | refine ZH ?_ ?_ | refine ZJ (by conv=>lhs; simp [cap,q1]) ?_ | refine ZA ?_ ?_)
   exact ⟨(.bool _,[]),⟨_,rfl⟩,Yr⟩
 · have q1 : ¬ (s.size : Int) < 2:=by omega
   obtain ⟨b0,g0⟩:=str_get (s:=s) (i:=0) (by omega)
   obtain ⟨b1,g1⟩:=str_get (s:=s) (i:=s.size - 1) (by omega)
   have hw : IntKind.i64.wrap ((s.size : Int) - 1) = ((s.size - 1 : Nat) : Int):=by rw [w64 (by omega) (by omega)]; omega
   by_cases bad : (128 : Int) < s.size ∨ ((b0.toNat : Int) != 47) = true ∨ ((b1.toNat : Int) == 47) = true
   · have bad2 : (128 : Int) < s.size ∨ (¬ (128 : Int) < s.size ∧ ((b0.toNat : Int) != 47) = true) ∨ (¬ (128 : Int) < s.size ∧ ((b0.toNat : Int) != 47) = false ∧ ((b1.toNat : Int) == 47) = true):=by
       by_cases c : (128 : Int) < s.size
       · exact .inl c
       · cases d : ((b0.toNat : Int) != 47)
         · simp only [c,d,false_or] at bad
           exact .inr (.inr ⟨c,rfl,by simpa using bad⟩)
         · exact .inr (.inl ⟨c,rfl⟩)
     rcases bad2 with c | ⟨c,d⟩ | ⟨c,d,e⟩
     · repeat' (first | intro (hb : _ = _) | refine ZV ?_ | refine ZB tm no_specs ?_ | refine ZH ?_ ?_ | refine ZJ (by conv=>lhs; simp [cap,q1,c]) ?_ | refine ZA ?_ ?_)
       exact ⟨(.bool _,[]),⟨_,rfl⟩,Yr⟩
     · repeat' (first | intro (hb : _ = _) | refine ZV ?_ | refine ZB tm no_specs ?_ | refine ZH ?_ ?_ | refine ZJ (by conv=>lhs; simp [cap,q1,c,d,g0]) ?_ | refine ZA ?_ ?_)
       exact ⟨(.bool _,[]),⟨_,rfl⟩,Yr⟩
     · repeat' (first | intro (hb : _ = _) | refine ZV ?_ | refine ZB tm no_specs ?_ | refine ZH ?_ ?_ | refine ZJ (by conv=>lhs; simp [cap,q1,c,d,e,g0,g1,hw]) ?_ | refine ZA ?_ ?_)
       exact ⟨(.bool _,[]),⟨_,rfl⟩,Yr⟩
   · have c : ¬ (128 : Int) < s.size:=fun c=>bad (.inl c)
     have d : ((b0.toNat : Int) != 47) = false:=by simpa using fun d=>bad (.inr (.inl d))
     have e : ((b1.toNat : Int) == 47) = false:=by simpa using fun d=>bad (.inr (.inr d))
     clear bad
     repeat' (first | intro (hb : _ = _) | refine ZV ?_ | refine ZB tm no_specs ?_ | refine ZH ?_ ?_ | refine ZJ (by conv=>lhs; simp [cap,q1,c,d,e,g0,g1,hw]) ?_ | refine ZA ?_ ?_)
     refine W.loop rfl (ι:={ q : Nat × NL ABlk // 1 ≤ q.1 ∧ q.1 ≤ s.size })
       (fun q=>⟨72,[(0, .str s),(3, .int .i64 (q.1.1 : Nat))],q.1.2⟩) (fun q=>s.size - q.1.1)
       ⟨(1,_),by simp,by dsimp only; omega⟩ (AS.le_of rfl ⟨rfl,rfl,trivial⟩ (fun _=>rfl)) ?_
     clear d e g0 g1 hw
     rintro ⟨⟨k,H⟩,k1,hk⟩
     dsimp only at k1 hk ⊢
     by_cases hk2 : k = s.size
     · subst hk2
       have q2 : ¬ (s.size : Int) < s.size:=by omega
       repeat' (first | intro (hb : _ = _) | refine ZV ?_ | refine ZB tm no_specs ?_ | refine ZH ?_ ?_ | refine ZJ (by conv=>lhs; simp [cap,q2]) ?_ | refine ZA ?_ ?_)
       exact ⟨(.bool _,[]),⟨_,rfl⟩,Yr⟩
     · have q2 : (k : Int) < s.size:=by omega
       obtain ⟨b,g⟩:=str_get (s:=s) (i:=k) (by omega)
       obtain ⟨a,g2⟩:=str_get (s:=s) (i:=k - 1) (by omega)
       have hw : IntKind.i64.wrap ((k : Int) - 1) = ((k - 1 : Nat) : Int):=by rw [w64 (by omega) (by omega)]; omega
       have hw1 : IntKind.i64.wrap ((k : Int) + 1) = ((k + 1 : Nat) : Int):=w64 (by omega) (by omega)
       repeat' (first | intro (hb : _ = _) | refine ZV ?_ | refine ZB tm no_specs ?_ | refine ZH ?_ ?_ | refine ZJ (by conv=>lhs; simp [cap,q2,g,g2,hw,hw1]) ?_ | refine ZA ?_ ?_)
       all_goals first | exact ⟨(.bool _,[]),⟨_,rfl⟩,Yr⟩ | exact ⟨⟨(k + 1,_),by dsimp only; omega,by dsimp only; omega⟩,by dsimp only; omega,AS.le_of rfl ⟨rfl,rfl,trivial⟩ (fun _=>rfl)⟩
end
section
attribute [local simp] instA slice3A slice3C makeSliceA indexA
attribute [-simp] mkv
attribute [local simp] mkv_hd hdA_cons hdA_ob hdA_ob'
abbrev NmS := {n : Nm // n.s.size ≤ 10000}
theorem ent_ex : ∃ S,FnC Tryz.prog 95 S ∧ ∀ n : NmS, ∃ r,S [.agg n.1.c] [] = some r ∧ ∃ b,r = (.bool b,[]) := by
 obtain ⟨SP,hSP,hSPe⟩:=pth_ex
 have sp : ∀ p ∈ ([(103,⟨1,SP⟩)] : NL Spec),FnC Tryz.prog p.1 p.2.fn:=by
   simp only [List.mem_cons,List.not_mem_nil,or_false]
   rintro p rfl
   exact hSP
 refine FnC.existsA (enc:=fun n : NmS=>[.agg n.1.c]) (Pp:=fun _ r => ∃ b,r = (.bool b,[])) 95 (fn:=Tryz.f95) Tryz.func95 rfl (by kernel_rfl) (fun x y h=>by
   simp only [List.cons.injEq,AV.agg.injEq,and_true] at h
   exact Subtype.ext (Nm.c_inj h)) (fun x=>⟨_,true,rfl⟩) fun x=>?_
 obtain ⟨⟨s,kd,l,hl⟩,hs⟩:=x
 dsimp only at hs
 obtain ⟨_,cp,bp,rfl⟩:=hSPe ⟨s,hs⟩
 dsimp only at cp
 change W _ _ _ _ ⟨41,[(0, .agg (Nm.c ⟨s,kd,l,hl⟩))],[]⟩
 have cap : l.length ≤ 9223372036854775807:=by omega
 simp only [Nm.c]
 repeat' (first | intro (hb : _ = _) | refine ZV ?_ | refine ZB tm sp ?_ | refine ZH ?_ ?_ | refine ZJ (by conv=>lhs; simp [cap]) ?_ | refine ZA ?_ ?_)
 all_goals first
   | exact ⟨(.bool _,[]),⟨_,rfl⟩,Yr⟩
   | skip
 all_goals
   refine W.loop rfl (ι:={ q : Nat × NL ABlk // q.1 ≤ l.length ∧ lk q.2 32 = some { gen:=1,kind:=2,elem:=72,size:=3,inl:=false,rows:=[[.str s, .int .i64 kd, .list 1 (l.map uX)]] } })
     (fun q=>⟨41,[(1, .ptr 32 1 0 0),(29, .list 1 (l.map uX)),(30, .int .i64 l.length),(31, .int .i64 (q.1.1 : Nat))],q.1.2⟩) (fun q=>l.length - q.1.1)
     ⟨(0,_),by simp,by simp [lk,lk_st]⟩ (AS.le_of rfl ⟨rfl,rfl,rfl,rfl,trivial⟩ (fun _=>rfl)) ?_
   rintro ⟨⟨k,H⟩,hk,h0⟩
   dsimp only at hk h0 ⊢
   by_cases hk2 : k = l.length
   · subst hk2
     have q1 : ¬ (l.length : Int) < l.length:=by omega
     repeat' (first | intro (hb : _ = _) | refine ZV ?_ | refine ZB tm sp ?_ | refine ZH ?_ ?_ | refine ZJ (by conv=>lhs; simp [q1,h0,cp]) ?_ | refine ZA ?_ ?_)
     exact ⟨(.bool _,[]),⟨_,rfl⟩,Yr⟩
   · have hlt : k < l.length:=by omega
     obtain ⟨t,hr⟩:=get_lt hlt
     have hm : (l.map uX)[k]? = some [.int .u64 t]:=by rw [List.getElem?_map,hr]; rfl
     have q1 : (k : Int) < l.length:=by omega
     have q2 : ¬ l.length ≤ k:=by omega
     have hw : IntKind.i64.wrap ((k : Int) + 1) = ((k + 1 : Nat) : Int):=w64 (by omega) (by omega)
     repeat' (first | intro (hb : _ = _) | refine ZV ?_ | refine ZB tm sp ?_ | refine ZH ?_ ?_ | refine ZJ (by conv=>lhs; simp [q1,q2,hm,hw,h0]) ?_ | refine ZA ?_ ?_)
     all_goals first | exact ⟨(.bool _,[]),⟨_,rfl⟩,Yr⟩ | exact ⟨⟨(k + 1,_),hlt,by simp [lk_st,h0]⟩,by dsimp only; omega,AS.le_of rfl ⟨rfl,rfl,rfl,rfl,trivial⟩ (fun _=>rfl)⟩
end
section
attribute [local simp] instA slice3A slice3C makeSliceA indexA
attribute [-simp] mkv
attribute [local simp] mkv_hd hdA_cons hdA_ob hdA_ob'
abbrev Dn := {l : List Nm // l.length ≤ 100 ∧ ∀ n ∈ l,n.s.size ≤ 10000}
def dnC (l : List Nm) : List AV := Ox.cells ⟨1,10,0,[],[],0,0,0,0,[],[],[],0,0,0,l.map Nm.c⟩
theorem dnC_inj : ∀ x y : Dn,([AV.agg (dnC x.1)] : List AV) = [.agg (dnC y.1)] → x = y := fun x y h => by
 simp only [dnC,Ox.cells,List.cons.injEq,AV.agg.injEq,AV.list.injEq,true_and,and_true] at h
 exact Subtype.ext (map_inj (fun a b h=>Nm.c_inj h) h)
noncomputable def barN : SpecFn := nS Tryz.prog [44] barS
theorem barN_ok : FnC Tryz.prog 93 barN := bar_ok.nrm _
def dn0 : List AV := [.int .u64 1, .int .i64 10, .int .i64 0, .int .i64 0, .int .u64 0, .list 1 [], .list 4 [], .list 1 [], .int .i64 0, .int .i64 0, .int .i64 0, .int .i64 0, .int .i64 0, .int .i64 0, .int .i64 0, .int .i64 0, .int .i64 0, .int .i64 0, .list 2 [], .list 4 [], .int .i64 0, .int .i64 0, .int .i64 0, .list 1 [], .list 1 [], .int .i64 0, .int .u64 0, .int .i64 0, .int .i64 0, .list 1 [], .list 1 [], .list 1 [], .int .i64 0, .int .i64 0, .int .i64 0, .nils]
theorem dn0_nrm : nrmL Tryz.prog [44] [.agg dn0] = [.agg (oxz 1 10 0).cells] := by kernel_rfl
theorem barN_eq : barN [.agg dn0] [] = some (.bool true,[]) := by
 rw [barN,nS_eq,dn0_nrm]
 exact barS_eq 1 10
def geB (a b : ByteArray) : Bool := !(Op.bytesLess a.toList b.toList)
def gtB (a b : ByteArray) : Bool := !Op.bytesLess a.toList b.toList && !(a.toList == b.toList)
def ltB (a b : ByteArray) : Bool := Op.bytesLess a.toList b.toList
theorem opA_geqS (a b : ByteArray) (H : NL ABlk) : AP.run (binOpA .geq (.str a) (.str b)) H = some ⟨.bool (geB a b),H,[],[],True⟩ := by
 first | rfl | simp [binOpA,AP.run,geB]
theorem opA_gtrS (a b : ByteArray) (H : NL ABlk) : AP.run (binOpA .gtr (.str a) (.str b)) H = some ⟨.bool (gtB a b),H,[],[],True⟩ := by
 first | rfl | simp [binOpA,AP.run,gtB]
theorem opA_lssS (a b : ByteArray) (H : NL ABlk) : AP.run (binOpA .lss (.str a) (.str b)) H = some ⟨.bool (ltB a b),H,[],[],True⟩ := by
 first | rfl | simp [binOpA,AP.run,ltB]
attribute [local simp] opA_geqS
theorem vdn_ex : ∃ S,FnC Tryz.prog 94 S ∧ ∀ l : Dn, ∃ r,S [.agg (dnC l.1)] [] = some r ∧ ∃ b,r = (.bool b,[]) := by
 obtain ⟨SE,hSE,hSEe⟩:=ent_ex
 have sp : ∀ p ∈ ([(95,⟨1,SE⟩),(93,⟨1,barN⟩)] : NL Spec),FnC Tryz.prog p.1 p.2.fn:=by
   simp only [List.mem_cons,List.not_mem_nil,or_false]
   rintro p (rfl | rfl)
   · exact hSE
   · exact barN_ok
 refine FnC.existsA (enc:=fun l : Dn=>[.agg (dnC l.1)]) (Pp:=fun _ r => ∃ b,r = (.bool b,[])) 94 (fn:=Tryz.f94) Tryz.func94 rfl (by kernel_rfl) dnC_inj (fun x=>⟨_,true,rfl⟩) fun x=>?_
 obtain ⟨l,hl,hs⟩:=x
 change W _ _ _ _ ⟨50,[(0, .agg (dnC l))],[]⟩
 have cap : l.length ≤ 9223372036854775807:=by omega
 have c6 : ¬ (256 : Int) < l.length:=by omega
 have cb:=barN_eq
 simp only [dn0] at cb
 simp only [dnC,Ox.cells]
 repeat' (first | intro (hb : _ = _) | refine ZV ?_ | refine ZB tm sp ?_ | refine ZH ?_ ?_ | refine ZJ (by conv=>lhs; simp [cap,c6]) ?_ | refine ZA ?_ ?_)
 refine W.loop rfl (ι:={ q : Nat × NL ABlk // q.1 ≤ l.length ∧ lk q.2 32 = some { gen:=1,kind:=2,elem:=44,size:=36,inl:=false,rows:=[dnC l] } })
   (fun q=>⟨50,[(1, .ptr 32 1 0 0),(20, .list 3 (l.map Nm.c)),(21, .int .i64 l.length),(22, .int .i64 (q.1.1 : Nat))],q.1.2⟩) (fun q=>l.length - q.1.1)
   ⟨(0,_),by simp,by simp [lk,lk_st,dnC,Ox.cells]⟩ (AS.le_of rfl ⟨rfl,rfl,rfl,rfl,trivial⟩ (fun _=>rfl)) ?_
 rintro ⟨⟨k,H⟩,hk,h0⟩
 dsimp only at hk h0 ⊢
 simp only [dnC,Ox.cells] at h0
 by_cases hk2 : k = l.length
 · subst hk2
   have q1 : ¬ (l.length : Int) < l.length:=by omega
   repeat' (first | intro (hb : _ = _) | refine ZV ?_ | refine ZB tm sp ?_ | refine ZH ?_ ?_ | refine ZJ (by conv=>lhs; simp [q1,h0,cb]) ?_ | refine ZA ?_ ?_)
   exact ⟨(.bool _,[]),⟨_,rfl⟩,Yr⟩
 · have hlt : k < l.length:=by omega
   obtain ⟨e,hr⟩:=get_lt hlt
   have hm : (l.map Nm.c)[k]? = some e.c:=by rw [List.getElem?_map,hr]; rfl
   have q1 : (k : Int) < l.length:=by omega
   have q2 : ¬ l.length ≤ k:=by omega
   have hw : IntKind.i64.wrap ((k : Int) + 1) = ((k + 1 : Nat) : Int):=w64 (by omega) (by omega)
   obtain ⟨_,ce,be,rfl⟩:=hSEe ⟨e,hs e (List.mem_of_getElem? hr)⟩
   dsimp only at ce
   obtain ⟨s,kd,ids,hi⟩:=e
   simp only [Nm.c] at ce hm
   cases be
   · repeat' (first | intro (hb : _ = _) | refine ZV ?_ | refine ZB tm sp ?_ | refine ZH ?_ ?_ | refine ZJ (by conv=>lhs; simp [q1,q2,hm,h0,ce]) ?_ | refine ZA ?_ ?_)
     exact ⟨(.bool _,[]),⟨_,rfl⟩,Yr⟩
   · by_cases hz : k = 0
     · have q3 : ¬ (0 : Int) < (k : Int):=by omega
       have q4 : ¬ 0 < k:=by omega
       clear hz
       repeat' (first | intro (hb : _ = _) | refine ZV ?_ | refine ZB tm sp ?_ | refine ZH ?_ ?_ | refine ZJ (by conv=>lhs; simp [q1,q2,q3,q4,hm,h0,ce,hw]) ?_ | refine ZA ?_ ?_)
       exact ⟨⟨(k + 1,_),hlt,by simp [lk_st,h0,dnC,Ox.cells]⟩,by dsimp only; omega,AS.le_of rfl ⟨rfl,rfl,rfl,rfl,trivial⟩ (fun _=>rfl)⟩
     · have q3 : (0 : Int) < (k : Int):=by omega
       have q4 : 0 < k:=by omega
       obtain ⟨j,hj⟩ : ∃ j,k = j + 1:=⟨k - 1,by omega⟩
       obtain ⟨p,hp⟩:=get_lt (l:=l) (i:=j) (by omega)
       have hm2 : (l.map Nm.c)[j]? = some p.c:=by rw [List.getElem?_map,hp]; rfl
       have hw2 : IntKind.i64.wrap ((k : Int) - 1) = (j : Int):=by rw [w64 (by omega) (by omega)]; omega
       have q5 : (j : Int) < l.length:=by omega
       have q6 : ¬ l.length ≤ j:=by omega
       clear hj
       obtain ⟨s',kd',ids',hi'⟩:=p
       simp only [Nm.c] at hm2
       repeat' (first | intro (hb : _ = _) | refine ZV ?_ | refine ZB tm sp ?_ | refine ZH ?_ ?_ | refine ZJ (by conv=>lhs; simp [q1,q2,q3,q4,q5,q6,hm,hm2,h0,ce,hw,hw2]) ?_ | refine ZA ?_ ?_)
       all_goals first | exact ⟨(.bool _,[]),⟨_,rfl⟩,Yr⟩ | exact ⟨⟨(k + 1,_),hlt,by simp [lk_st,h0,dnC,Ox.cells]⟩,by dsimp only; omega,AS.le_of rfl ⟨rfl,rfl,rfl,rfl,trivial⟩ (fun _=>rfl)⟩
end
section
attribute [local simp] instA slice3A slice3C makeSliceA indexA
attribute [-simp] mkv
attribute [local simp] mkv_hd hdA_cons hdA_ob hdA_ob'
attribute [local simp] opA_gtrS opA_lssS
theorem ybd {n : Nat} (h : n ≤ 1000) : n ≤ maxLen ∧ n * 48 ≤ 140737488355328 := by
 simp only [maxLen]; omega
def InP (l : List Nm) (x : Nm) (r : AV × List ABlk) : Prop := ∃ L : List Nm,L.length ≤ 2 * l.length + 1 ∧ (∀ n ∈ L,n ∈ l ∨ n = x) ∧ r = (.list 3 (L.map Nm.c),[])
theorem in_ex : ∃ S,FnC Tryz.prog 97 S ∧ ∀ x : Dn × NmS, ∃ r,S [.list 3 (x.1.1.map Nm.c), .agg x.2.1.c] [] = some r ∧ InP x.1.1 x.2.1 r := by
 have sp : ∀ p ∈ ([(104,⟨1,cpmS⟩)] : NL Spec),FnC Tryz.prog p.1 p.2.fn:=by
   simp only [List.mem_cons,List.not_mem_nil,or_false]
   rintro p rfl
   exact cpm_ok
 refine FnC.existsA (enc:=fun x : Dn × NmS=>[.list 3 (x.1.1.map Nm.c), .agg x.2.1.c]) (Pp:=fun x r=>InP x.1.1 x.2.1 r) 97 (fn:=Tryz.f97) Tryz.func97 rfl (by kernel_rfl) (fun x y h=>by
   simp only [List.cons.injEq,AV.list.injEq,AV.agg.injEq,true_and,and_true] at h
   exact Prod.ext (Subtype.ext (map_inj (fun a b h=>Nm.c_inj h) h.1)) (Subtype.ext (Nm.c_inj h.2))) (fun x=>⟨_,[],by simp,by simp,rfl⟩) fun x=>?_
 obtain ⟨⟨l,hl,hs⟩,n,hn⟩:=x
 change W _ _ _ _ ⟨58,[(0, .list 3 (l.map Nm.c)),(1, .agg n.c)],[]⟩
 have cap : l.length ≤ 9223372036854775807:=by omega
 obtain ⟨s,kd,ids,hi⟩:=n
 have cn:=cpmS_eq ⟨s,kd,ids,hi⟩
 simp only [Nm.c] at cn
 simp only [Nm.c]
 repeat' (first | intro (hb : _ = _) | refine ZV ?_ | refine ZB (id:=0) tm sp ?_ | refine ZB (id:=1) tm sp ?_ | refine ZB (id:=2) tm sp ?_ | refine ZH ?_ ?_ | refine ZJ (by conv=>lhs; simp [cap]) ?_ | refine ZA ?_ ?_)
 refine W.phantom (t:=5) 20000 72 3 true (by rfl) (by rfl) (by decide) ?_
 refine W.loop rfl (ι:={ q : Nat × List Nm × Nat × Nat × NL ABlk // q.1 ≤ l.length ∧ (q.2.1.length = q.2.2.1 ∧ q.2.1.length ≤ 2 * q.1) ∧ (∀ n ∈ q.2.1,n ∈ l ∨ n = ⟨s,kd,ids,hi⟩) ∧ lk q.2.2.2.2 64 = some { gen:=1,kind:=2,elem:=72,size:=3,inl:=false,rows:=[[.str s, .int .i64 kd, .list 1 (ids.map uX)]] } ∧ lk q.2.2.2.2 20000 = some { gen:=q.2.2.2.1,kind:=2,elem:=72,size:=3,inl:=true,rows:=q.2.1.map Nm.c } })
   (fun q=>⟨58,[(0, .list 3 (l.map Nm.c)),(3, .ptr 64 1 0 0),(5, .sl 20000 q.1.2.2.2.1 0 q.1.2.2.1),(8, .list 3 (l.map Nm.c)),(9, .int .i64 l.length),(10, .int .i64 (q.1.1 : Nat))],q.1.2.2.2.2⟩) (fun q=>l.length - q.1.1)
   ⟨(0,[],0,0,_),by simp,by simp,by simp,by simp [lk,lk_st],by simp [lk,lk_st]⟩ (AS.le_of rfl ⟨rfl,rfl,rfl,rfl,rfl,rfl,trivial⟩ (fun _=>rfl)) ?_
 rintro ⟨⟨k,L,m,g,H⟩,hk,⟨hm0,hL⟩,hv,h3,h0⟩
 dsimp only at hk hm0 hL hv h3 h0 ⊢
 subst hm0
 have y1 : L.length ≤ maxLen:=by simp only [maxLen]; omega
 have y2 : (L.length + 1) * 48 ≤ 140737488355328:=by omega
 have y4 : L.length + 1 ≤ maxLen:=by simp only [maxLen]; omega
 have fT : firstRows L.length (L.map Nm.c) = L.map Nm.c:=first_all (by simp)
 have m1 : (1 : Nat) ≤ maxLen:=by decide
 have tT : List.take L.length (L.map Nm.c) = L.map Nm.c:=List.take_of_length_le (by simp)
 by_cases hk2 : k = l.length
 · subst hk2
   have q1 : ¬ (l.length : Int) < l.length:=by omega
   obtain ⟨L2,hL2⟩ : ∃ L2,L ++ [⟨s,kd,ids,hi⟩] = L2:=⟨_,rfl⟩
   have hrow : L.map Nm.c ++ [[.str s, .int .i64 kd, .list 1 (ids.map uX)]] = L2.map Nm.c:=by rw [← hL2]; simp [Nm.c]
   have hl2 : L2.length = L.length + 1:=by rw [← hL2]; simp
   have tT2 : List.take (L.length + 1) (L2.map Nm.c) = L2.map Nm.c:=List.take_of_length_le (by simp; omega)
   have hv2 : ∀ n ∈ L2,n ∈ l ∨ n = ⟨s,kd,ids,hi⟩:=fun x hx=>by
     rw [← hL2] at hx
     rcases List.mem_append.1 hx with hx | hx
     · exact hv x hx
     · rw [List.mem_singleton.1 hx]; exact .inr rfl
   clear hL2
   cases hz : ((L.length : Int) == (l.length : Int)) with
   | true =>
     repeat' (first | intro (hb : _ = _) | refine ZV ?_ | refine ZB tm sp ?_ | refine ZH ?_ ?_ | refine ZJ (by conv=>lhs; simp [q1,cap,h3,h0,cn,y1,y2,y4,fT,m1,hrow,hz]) ?_ | refine ZA ?_ ?_)
     exact ⟨(.list 3 (L2.map Nm.c),[]),⟨L2,by omega,hv2,rfl⟩,Ret.dataR rfl (by conv=>lhs; simp) (by conv=>lhs; simp [frqT,frqV,frqL,frq1,frz1,AP.run,h0,tT2,hl2]) rfl⟩
   | false =>
     repeat' (first | intro (hb : _ = _) | refine ZV ?_ | refine ZB tm sp ?_ | refine ZH ?_ ?_ | refine ZJ (by conv=>lhs; simp [q1,cap,h3,h0,cn,y1,y2,y4,fT,m1,hrow,hz]) ?_ | refine ZA ?_ ?_)
     exact ⟨(.list 3 (L.map Nm.c),[]),⟨L,by omega,hv,rfl⟩,Ret.dataR rfl (by conv=>lhs; simp) (by conv=>lhs; simp [frqT,frqV,frqL,frq1,frz1,AP.run,h0,tT]) rfl⟩
 · have hlt : k < l.length:=by omega
   obtain ⟨e,hr⟩:=get_lt hlt
   have hm : (l.map Nm.c)[k]? = some e.c:=by rw [List.getElem?_map,hr]; rfl
   have q1 : (k : Int) < l.length:=by omega
   have q2 : ¬ l.length ≤ k:=by omega
   have hw : IntKind.i64.wrap ((k : Int) + 1) = ((k + 1 : Nat) : Int):=w64 (by omega) (by omega)
   have ce:=cpmS_eq e
   have he:=List.mem_of_getElem? hr
   obtain ⟨Le,hLe⟩ : ∃ Le,L ++ [e] = Le:=⟨_,rfl⟩
   obtain ⟨Ln,hLn⟩ : ∃ Ln,L ++ [⟨s,kd,ids,hi⟩] = Ln:=⟨_,rfl⟩
   obtain ⟨Lm,hLm⟩ : ∃ Lm,Ln ++ [e] = Lm:=⟨_,rfl⟩
   have r1 : L.map Nm.c ++ [e.c] = Le.map Nm.c:=by rw [← hLe]; simp
   have r2 : L.map Nm.c ++ [[.str s, .int .i64 kd, .list 1 (ids.map uX)]] = Ln.map Nm.c:=by rw [← hLn]; simp [Nm.c]
   have r3 : Ln.map Nm.c ++ [e.c] = Lm.map Nm.c:=by rw [← hLm]; simp
   have l1 : Le.length = L.length + 1:=by rw [← hLe]; simp
   have l2 : Ln.length = L.length + 1:=by rw [← hLn]; simp
   have l3 : Lm.length = L.length + 2:=by rw [← hLm]; simp [l2]
   have v1 : ∀ n ∈ Le,n ∈ l ∨ n = ⟨s,kd,ids,hi⟩:=fun x hx=>by
     rw [← hLe] at hx
     rcases List.mem_append.1 hx with hx | hx
     · exact hv x hx
     · rw [List.mem_singleton.1 hx]; exact .inl he
   have v3 : ∀ n ∈ Lm,n ∈ l ∨ n = ⟨s,kd,ids,hi⟩:=fun x hx=>by
     rw [← hLm, ← hLn] at hx
     rcases List.mem_append.1 hx with hx | hx
     · rcases List.mem_append.1 hx with hx | hx
       · exact hv x hx
       · rw [List.mem_singleton.1 hx]; exact .inr rfl
     · rw [List.mem_singleton.1 hx]; exact .inl he
   have hS : L.length ≤ 998:=by omega
   have z1 : L.length + 1 ≤ maxLen:=(ybd (by omega)).1
   have z2 : (L.length + 1 + 1) * 48 ≤ 140737488355328:=(ybd (by omega)).2
   have z4 : L.length + 1 + 1 ≤ maxLen:=(ybd (by omega)).1
   have fN : firstRows (L.length + 1) (Ln.map Nm.c) = Ln.map Nm.c:=first_all (by simp; omega)
   clear hLe hLn hLm tT
   obtain ⟨s',kd',ids',hi'⟩:=e
   simp only [Nm.c] at ce hm r1 r3
   by_cases hz : L = []
   · subst hz
     clear fT y1 y2 y4 z1 z2 z4 fN r1 r2 r3 l1 l2 l3 v1 v3
     have y2 : 1 * 48 ≤ 140737488355328:=by omega
     have z2 : 2 * 48 ≤ 140737488355328:=by omega
     have m2 : (2 : Nat) ≤ maxLen:=by decide
     have m0 : (0 : Nat) ≤ maxLen:=by decide
     simp only [List.length_nil,List.map_nil] at h0
     repeat' (first | intro (hb : _ = _) | refine ZV ?_ | refine ZB tm sp ?_ | refine ZH ?_ ?_ | refine ZJ (by conv=>lhs; simp [q1,q2,hm,cap,h3,h0,cn,ce,m0,m1,m2,y2,z2,hw]) ?_ | refine ZA ?_ ?_)
     all_goals first
       | exact ⟨⟨(k + 1,[⟨s',kd',ids',hi'⟩],1,g + 1,_),hlt,⟨rfl,by dsimp only [List.length_cons,List.length_nil]; omega⟩,by simp; exact .inl he,by simp [lk_st,h3],by simp [lk_st,Nm.c,firstRows]⟩,by dsimp only; omega,AS.le_of rfl ⟨rfl,rfl,rfl,rfl,rfl,rfl,trivial⟩ (fun _=>rfl)⟩
       | exact ⟨⟨(k + 1,[⟨s,kd,ids,hi⟩,⟨s',kd',ids',hi'⟩],2,g + 1 + 1,_),hlt,⟨rfl,by dsimp only [List.length_cons,List.length_nil]; omega⟩,by simp; exact .inl he,by simp [lk_st,h3],by simp [lk_st,Nm.c,firstRows]⟩,by dsimp only; omega,AS.le_of rfl ⟨rfl,rfl,rfl,rfl,rfl,rfl,trivial⟩ (fun _=>rfl)⟩
   · have hz : L.length ≠ 0:=fun h=>hz (List.length_eq_zero_iff.1 h)
     have e0 : ((L.length : Int) == 0) = false:=by simp; omega
     obtain ⟨j,hj⟩ : ∃ j,L.length = j + 1:=⟨L.length - 1,by omega⟩
     obtain ⟨p,hp⟩:=get_lt (l:=L) (i:=j) (by omega)
     have hmp : (L.map Nm.c)[j]? = some p.c:=by rw [List.getElem?_map,hp]; rfl
     have hw2 : IntKind.i64.wrap ((L.length : Int) - 1) = (j : Int):=by rw [w64 (by omega) (by omega)]; omega
     have q5 : (j : Int) < L.length:=by omega
     have q6 : ¬ L.length ≤ j:=by omega
     clear hj
     obtain ⟨s2,kd2,ids2,hi2⟩:=p
     simp only [Nm.c] at hmp
     repeat' (first | intro (hb : _ = _) | refine ZV ?_ | refine ZB tm sp ?_ | refine ZH ?_ ?_ | refine ZJ (by conv=>lhs; simp [l2,q1,q2,hm,cap,h3,h0,cn,ce,y1,y2,y4,fT,m1,r1,r2,r3,z1,z2,z4,fN,e0,hw,hw2,q5,q6,hmp]) ?_ | refine ZA ?_ ?_)
     all_goals first
       | exact ⟨⟨(k + 1,Le,L.length + 1,g + 1,_),hlt,⟨l1,by dsimp only; omega⟩,v1,by simp [lk_st,h3],by simp [lk_st]⟩,by dsimp only; omega,AS.le_of rfl ⟨rfl,rfl,rfl,rfl,rfl,rfl,trivial⟩ (fun _=>rfl)⟩
       | exact ⟨⟨(k + 1,Lm,L.length + 1 + 1,g + 1 + 1,_),hlt,⟨l3,by dsimp only; omega⟩,v3,by simp [lk_st,h3],by simp [lk_st]⟩,by dsimp only; omega,AS.le_of rfl ⟨rfl,rfl,rfl,rfl,rfl,rfl,trivial⟩ (fun _=>rfl)⟩
end
section
attribute [local simp] instA slice3A slice3C makeSliceA indexA
attribute [-simp] mkv
attribute [local simp] mkv_hd hdA_cons hdA_ob hdA_ob'
def eqB (a b : ByteArray) : Bool := a.toList == b.toList
theorem opA_eqlS (a b : ByteArray) (H : NL ABlk) : AP.run (binOpA .eql (.str a) (.str b)) H = some ⟨.bool (eqB a b),H,[],[],True⟩ := by
 first | rfl | simp [binOpA,AP.run,eqB]
attribute [local simp] opA_eqlS
def FiP (r : AV × List ABlk) : Prop := ∃ (s : ByteArray) (k : Int) (z : AV) (b : Bool),(z = .nils ∨ ∃ w,z = .list 1 w) ∧ r = (.tup [.agg [.str s, .int .i64 k,z], .bool b],[])
theorem fi_ex : ∃ S,FnC Tryz.prog 96 S ∧ ∀ x : Dn × ByteArray, ∃ r,S [.agg (dnC x.1.1), .str x.2] [] = some r ∧ FiP r := by
 obtain ⟨SV,hSV,hSVe⟩:=vdn_ex
 have sp : ∀ p ∈ ([(94,⟨1,SV⟩),(104,⟨1,cpmS⟩)] : NL Spec),FnC Tryz.prog p.1 p.2.fn:=by
   simp only [List.mem_cons,List.not_mem_nil,or_false]
   rintro p (rfl | rfl)
   · exact hSV
   · exact cpm_ok
 refine FnC.existsA (enc:=fun x : Dn × ByteArray=>[.agg (dnC x.1.1), .str x.2]) (Pp:=fun _ r=>FiP r) 96 (fn:=Tryz.f96) Tryz.func96 rfl (by kernel_rfl) (fun x y h=>by
   simp only [List.cons.injEq,AV.str.injEq,and_true] at h
   exact Prod.ext (dnC_inj _ _ (by rw [h.1])) h.2) (fun x=>⟨_,⟨#[]⟩,0, .nils,true, .inl rfl,rfl⟩) fun x=>?_
 obtain ⟨⟨l,hl,hs⟩,p⟩:=x
 change W _ _ _ _ ⟨27,[(0, .agg (dnC l)),(1, .str p)],[]⟩
 have cap : l.length ≤ 9223372036854775807:=by omega
 obtain ⟨_,cv,bv,rfl⟩:=hSVe ⟨l,hl,hs⟩
 dsimp only at cv
 simp only [dnC,Ox.cells] at cv ⊢
 cases bv
 · repeat' (first | intro (hb : _ = _) | refine ZV ?_ | refine ZB tm sp ?_ | refine ZH ?_ ?_ | refine ZJ (by conv=>lhs; simp [cv]) ?_ | refine ZA ?_ ?_)
   exact ⟨(.tup [.agg [.str _, .int .i64 0, .nils], .bool _],[]),⟨_,_,_,_, .inl rfl,rfl⟩,Yr⟩
 · repeat' (first | intro (hb : _ = _) | refine ZV ?_ | refine ZB (id:=0) tm sp ?_ | refine ZB (id:=1) tm sp ?_ | refine ZB (id:=2) tm sp ?_ | refine ZB (id:=3) tm sp ?_ | refine ZH ?_ ?_ | refine ZJ (by conv=>lhs; simp [cv,cap]) ?_ | refine ZA ?_ ?_)
   generalize hZ : (⟨#[]⟩ : ByteArray) = em
   refine W.loop rfl (ι:={ q : Nat × NL ABlk // q.1 ≤ l.length ∧ lk q.2 80 = some { gen:=1,kind:=2,elem:=72,size:=3,inl:=false,rows:=[[.str em, .int .i64 0, .nils]] } })
     (fun q=>⟨27,[(1, .str p),(4, .ptr 80 1 0 0),(13, .list 3 (l.map Nm.c)),(14, .int .i64 l.length),(15, .int .i64 (q.1.1 : Nat))],q.1.2⟩) (fun q=>l.length - q.1.1)
     ⟨(0,_),by simp,by simp [lk,lk_st, ← hZ]; rfl⟩ (AS.le_of rfl ⟨rfl,rfl,rfl,rfl,rfl,trivial⟩ (fun _=>rfl)) ?_
   clear cv
   rintro ⟨⟨k,H⟩,hk,h0⟩
   dsimp only at hk h0 ⊢
   by_cases hk2 : k = l.length
   · subst hk2
     have q1 : ¬ (l.length : Int) < l.length:=by omega
     repeat' (first | intro (hb : _ = _) | refine ZV ?_ | refine ZB tm sp ?_ | refine ZH ?_ ?_ | refine ZJ (by conv=>lhs; simp [q1,h0]) ?_ | refine ZA ?_ ?_)
     exact ⟨(.tup [.agg [.str _, .int .i64 0, .nils], .bool _],[]),⟨_,_,_,_, .inl rfl,rfl⟩,Yr⟩
   · have hlt : k < l.length:=by omega
     obtain ⟨e,hr⟩:=get_lt hlt
     have hm : (l.map Nm.c)[k]? = some e.c:=by rw [List.getElem?_map,hr]; rfl
     have q1 : (k : Int) < l.length:=by omega
     have q2 : ¬ l.length ≤ k:=by omega
     have hw : IntKind.i64.wrap ((k : Int) + 1) = ((k + 1 : Nat) : Int):=w64 (by omega) (by omega)
     have ce:=cpmS_eq e
     obtain ⟨s',kd',ids',hi'⟩:=e
     simp only [Nm.c] at ce hm
     repeat' (first | intro (hb : _ = _) | refine ZV ?_ | refine ZB tm sp ?_ | refine ZH ?_ ?_ | refine ZJ (by conv=>lhs; simp [q1,q2,hm,h0,ce,hw]) ?_ | refine ZA ?_ ?_)
     all_goals first
       | exact ⟨(.tup [.agg [.str _, .int .i64 _, .list 1 _], .bool _],[]),⟨_,_,_,_, .inr ⟨_,rfl⟩,rfl⟩,Yr⟩
       | exact ⟨⟨(k + 1,_),hlt,by simp [lk_st,h0]⟩,by dsimp only; omega,AS.le_of rfl ⟨rfl,rfl,rfl,rfl,rfl,trivial⟩ (fun _=>rfl)⟩
def AdP (l : List Nm) (x : Nm) (r : AV × List ABlk) : Prop := (∃ L : List Nm,L.length ≤ 2 * l.length + 1 ∧ (∀ n ∈ L,n ∈ l ∨ n = x) ∧ r = (.tup [.agg (dnC L), .int .i64 0],[])) ∨ ∃ e : Int,(e = 1 ∨ e = 7 ∨ e = 9) ∧ r = (.tup [.agg zO, .int .i64 e],[])
theorem add_ex : ∃ S,FnC Tryz.prog 83 S ∧ ∀ x : Dn × NmS, ∃ r,S [.agg (dnC x.1.1), .agg x.2.1.c] [] = some r ∧ AdP x.1.1 x.2.1 r := by
 obtain ⟨SV,hSV,hSVe⟩:=vdn_ex
 obtain ⟨SE,hSE,hSEe⟩:=ent_ex
 obtain ⟨SF,hSF,hSFe⟩:=fi_ex
 obtain ⟨SI,hSI,hSIe⟩:=in_ex
 have sp : ∀ p ∈ ([(94,⟨1,SV⟩),(95,⟨1,SE⟩),(96,⟨1,SF⟩),(97,⟨1,SI⟩)] : NL Spec),FnC Tryz.prog p.1 p.2.fn:=by
   simp only [List.mem_cons,List.not_mem_nil,or_false]
   rintro p (rfl | rfl | rfl | rfl)
   · exact hSV
   · exact hSE
   · exact hSF
   · exact hSI
 refine FnC.existsA (enc:=fun x : Dn × NmS=>[.agg (dnC x.1.1), .agg x.2.1.c]) (Pp:=fun x r=>AdP x.1.1 x.2.1 r) 83 (fn:=Tryz.f83) Tryz.func83 rfl (by kernel_rfl) (fun x y h=>by
   simp only [List.cons.injEq,AV.agg.injEq,and_true] at h
   exact Prod.ext (dnC_inj _ _ (by rw [h.1])) (Subtype.ext (Nm.c_inj h.2))) (fun x=>⟨_, .inr ⟨1, .inl rfl,rfl⟩⟩) fun x=>?_
 obtain ⟨⟨l,hl,hs⟩,n,hn⟩:=x
 change W _ _ _ _ ⟨37,[(0, .agg (dnC l)),(1, .agg n.c)],[]⟩
 have cap : l.length ≤ 9223372036854775807:=by omega
 have c6 : ¬ (256 : Int) ≤ l.length:=by omega
 obtain ⟨_,cv,bv,rfl⟩:=hSVe ⟨l,hl,hs⟩
 obtain ⟨_,ce,be,rfl⟩:=hSEe ⟨n,hn⟩
 obtain ⟨_,cf,fs,fk,fz,fb,hz,rfl⟩:=hSFe (⟨l,hl,hs⟩,n.s)
 obtain ⟨_,ci,L,hL,hm,rfl⟩:=hSIe (⟨l,hl,hs⟩,⟨n,hn⟩)
 dsimp only at cv ce cf ci hm hL
 have er : ∀ e : Int,(e = 1 ∨ e = 7 ∨ e = 9) → AdP l n (.tup [.agg zO, .int .i64 e],[]):=fun e he => .inr ⟨e,he,rfl⟩
 have ok : AdP l n (.tup [.agg (dnC L), .int .i64 0],[]) := .inl ⟨L,hL,hm,rfl⟩
 obtain ⟨s,kd,ids,hi⟩:=n
 simp only [dnC,Ox.cells,Nm.c] at cv ce cf ci ok ⊢
 simp only [zO] at er
 clear hSVe hSEe hSFe hSIe
 cases bv
 · repeat' (first | intro (hb : _ = _) | refine ZV ?_ | refine ZB tm sp ?_ | refine ZH ?_ ?_ | refine ZJ (by conv=>lhs; simp [cv]) ?_ | refine ZA ?_ ?_)
   exact ⟨_,er 1 (.inl rfl),Yr⟩
 cases be
 · repeat' (first | intro (hb : _ = _) | refine ZV ?_ | refine ZB tm sp ?_ | refine ZH ?_ ?_ | refine ZJ (by conv=>lhs; simp [cv,ce]) ?_ | refine ZA ?_ ?_)
   exact ⟨_,er 1 (.inl rfl),Yr⟩
 rcases hz with rfl | ⟨w,rfl⟩
 all_goals
   cases fb
   · repeat' (first | intro (hb : _ = _) | refine ZV ?_ | refine ZB tm sp ?_ | refine ZH ?_ ?_ | refine ZJ (by conv=>lhs; simp [cv,ce,cf,ci,cap,c6]) ?_ | refine ZA ?_ ?_)
     exact ⟨_,ok,Yr⟩
   · repeat' (first | intro (hb : _ = _) | refine ZV ?_ | refine ZB tm sp ?_ | refine ZH ?_ ?_ | refine ZJ (by conv=>lhs; simp [cv,ce,cf]) ?_ | refine ZA ?_ ?_)
     exact ⟨_,er 7 (.inr (.inl rfl)),Yr⟩
end
section
attribute [local simp] instA slice3A slice3C makeSliceA indexA
attribute [-simp] mkv
attribute [local simp] mkv_hd hdA_cons hdA_ob hdA_ob'
def sC (s : ByteArray) : List AV := [.str s]
def PaP (r : AV × List ABlk) : Prop := ∃ P : List ByteArray,P.length = 8 ∧ (∀ s ∈ P,s.size ≤ 10000) ∧ r = (.list 1 (P.map sC),[])
theorem m8 : 8 ≤ maxLen := by simp [maxLen]
theorem m2x : 2 ≤ maxLen := by simp [maxLen]
theorem m5 : 5 ≤ maxLen := by simp [maxLen]
def pathL : List ByteArray := [⟨#[47,100,101,118]⟩,⟨#[47,102]⟩,⟨#[47,112,111,114,116]⟩,⟨#[47,115,101,109]⟩,⟨#[47,115,104,109]⟩,⟨#[47,103]⟩,⟨#[98,97,100]⟩,⟨#[47,102,47,103]⟩]
theorem pathL_ok : ∀ s ∈ pathL,s.size ≤ 10000 := by
 simp only [pathL,List.mem_cons,List.not_mem_nil,or_false]
 rintro s (rfl | rfl | rfl | rfl | rfl | rfl | rfl | rfl) <;> decide
theorem pat_ex : ∃ S,FnC Tryz.prog 82 S ∧ ∀ _ : Unit, ∃ r,S [] [] = some r ∧ PaP r := by
 refine FnC.existsA (enc:=fun _ : Unit=>[]) (Pp:=fun _ r=>PaP r) 82 (fn:=Tryz.f82) Tryz.func82 rfl (by kernel_rfl) (fun _ _ _=>rfl) (fun _=>⟨_,List.replicate 8 ⟨#[]⟩,rfl,by simp; exact Nat.zero_le _,rfl⟩) fun _=>?_
 change W _ _ _ _ ⟨2,[],[]⟩
 repeat' (first | intro (hb : _ = _) | refine ZV ?_ | refine ZB tm no_specs ?_ | refine ZH ?_ ?_ | refine ZJ (by conv=>lhs; simp [m8]) ?_ | refine ZA ?_ ?_)
 exact ⟨(.list 1 [[.str ⟨#[47,100,101,118]⟩],[.str ⟨#[47,102]⟩],[.str ⟨#[47,112,111,114,116]⟩],[.str ⟨#[47,115,101,109]⟩],[.str ⟨#[47,115,104,109]⟩],[.str ⟨#[47,103]⟩],[.str ⟨#[98,97,100]⟩],[.str ⟨#[47,102,47,103]⟩]],[]),⟨pathL,rfl,pathL_ok,rfl⟩,Ret.dataR rfl (by conv=>lhs; simp) (by conv=>lhs; simp [frqT,frqV,frqL,frq1,frz1,AP.run]) rfl⟩
def NmG (n : Nm) : Prop := n.s.size ≤ 10000 ∧ (Lit.int .i64 n.k).wf = true ∧ ∀ v ∈ n.ids,(Lit.int .u64 v).wf = true
theorem nm_ty (n : Nm) (h : NmG n) : TyR Tryz.prog 3 72 n.c := by
 obtain ⟨s,k,ids,hi⟩:=n
 obtain ⟨h1,h2,h3⟩:=h
 dsimp only at h1 h2 h3
 apply TyR.ofLeafs (m:=2) 1
 rw [show leafsN Tryz.prog 1 72 = [9,3,27] by kernel_rfl]
 unfold Nm.c
 refine TyFs.one ?_ (TyFs.one (tyInt (by kernel_rfl) h2) (TyFs.one (tySl 26 (by kernel_rfl) (by kernel_rfl) (by rw [List.length_map]; exact Nat.le_trans hi (by decide)) fun row hr=>?_) rfl))
 · rw [TyR_string (by kernel_rfl)]
   exact ⟨s,rfl,by simp only [maxLen]; omega⟩
 · obtain ⟨v,hm,rfl⟩:=List.mem_map.1 hr
   exact tyInt (by kernel_rfl) (h3 v hm)
theorem nms_bd : ∀ L : List Nm,bdRows 10000 (L.map Nm.c) = true
 | []=>rfl
 | n :: r=>by
   have : (List.map uX n.ids).length ≤ 10000:=by rw [List.length_map]; have:=n.bd; omega
   simp only [List.map_cons,bdRows,Nm.c,bdL,bdV,bdRows_uC,nms_bd r,decide_eq_true this,Bool.and_true,Bool.true_and]
theorem wz : (Lit.int .i64 0).wf = true := by decide
theorem nms_ok {L : List Nm} (hl : L.length ≤ 100) (h : ∀ n ∈ L,NmG n) : Ox.OK ⟨1,10,0,[],[],0,0,0,0,[],[],[],0,0,0,L.map Nm.c⟩ :=
 ⟨(by decide : (Lit.int .u64 1).wf = true),(by decide : (Lit.int .i64 10).wf = true),wz,rwOK_nil _,rwOK_nil _,wz,(by decide : (Lit.int .u64 0).wf = true),wz,wz,rwOK_nil _,rwOK_nil _,rwOK_nil _,wz,wz,wz,by simpa using hl,fun row hr=>by
   obtain ⟨n,hm,rfl⟩:=List.mem_map.1 hr
   exact nm_ty n (h n hm),nms_bd L⟩
def NsP (_ : List UInt8) (r : AV × List ABlk) : Prop := ∃ (o : Ox) (ds' : List UInt8),o.OK ∧ r = (.agg o.cells,[diceB ds'])
theorem NsP.ne (ds : List UInt8) : ∃ r,NsP ds r := ⟨_,⟨1,10,0,[],[],0,0,0,0,[],[],[],0,0,0,([] : List Nm).map Nm.c⟩,ds,nms_ok (by simp) (by simp),rfl⟩
theorem first1 (a : List AV) : firstRows 1 [a] = [a] := rfl
attribute [local simp] first1
theorem nms_ex : ∃ S,FnC Tryz.prog 55 S ∧ ∀ ds, ∃ r,S (encD1 ds).1 (encD1 ds).2 = some r ∧ NsP ds r := by
 obtain ⟨SP,hSP,hSPe⟩:=pat_ex
 obtain ⟨SA,hSA,hSAe⟩:=add_ex
 have sp : ∀ p ∈ ([(81,⟨1,n09S⟩),(8,⟨3,diceS⟩),(25,⟨3,idS⟩),(82,⟨1,SP⟩),(83,⟨1,SA⟩)] : NL Spec),FnC Tryz.prog p.1 p.2.fn:=by
   simp only [List.mem_cons,List.not_mem_nil,or_false]
   rintro p (rfl | rfl | rfl | rfl | rfl)
   · exact n09_ok
   · exact dice_ok
   · exact id_ok
   · exact hSP
   · exact hSA
 refine FnC.existsB 55 (fn:=Tryz.f55) Tryz.func55 rfl (by kernel_rfl) (fun x b hb=>by simp [encD1] at hb; rw [hb]; rfl) encX1_inj NsP.ne fun ds=>?_
 change W _ _ _ _ ⟨49,[(0, .ptr 0 0 0 0)],[(0,diceB ds)]⟩
 have c1:=n09S_eq
 have d1:=diceS_eq ds 6
 have b1:=dn_lt ds (n:=6) (by omega)
 have b0:=dn_nonneg ds 6
 generalize dl ds 6 = e1 at *
 obtain ⟨kk,hkk⟩ : ∃ k : Nat,dn ds 6 = k:=⟨_,(Int.toNat_of_nonneg b0).symm⟩
 rw [hkk] at d1 b1
 clear hkk b0
 simp only [diceB] at d1 ⊢
 simp only [oxz,Ox.cells] at c1
 repeat' (first | intro (hb : _ = _) | refine ZV ?_ | refine ZB tm sp ?_ | refine ZH ?_ ?_ | refine ZJ (by conv=>lhs; simp [c1,d1]) ?_ | refine ZA ?_ ?_)
 refine W.loop rfl (ι:={ q : Nat × List Nm × List UInt8 × NL ABlk // (q.1 ≤ 5 ∧ (q.2.1.length + 1) * 2 ^ q.1 ≤ 32) ∧ (∀ n ∈ q.2.1,NmG n) ∧ lk q.2.2.2 0 = some (diceB q.2.2.1) ∧ lk q.2.2.2 48 = some { gen:=1,kind:=2,elem:=44,size:=36,inl:=false,rows:=[zO] } ∧ lk q.2.2.2 64 = some { gen:=1,kind:=2,elem:=44,size:=36,inl:=false,rows:=[dnC q.2.1] } })
   (fun q=>⟨49,[(0, .ptr 0 0 0 0),(2, .ptr 48 1 0 0),(3, .ptr 64 1 0 0),(4, .int .i64 (q.1.1 : Nat))],q.1.2.2.2⟩) (fun q=>q.1.1)
   ⟨(kk,[],e1,_),⟨by dsimp only; omega,by
     have : 2 ^ kk ≤ 2 ^ 5:=Nat.pow_le_pow_right (by omega) (by omega)
     simpa using this⟩,by simp,by simp [lk,lk_st,diceB],by simp [lk,lk_st,zO],by simp [lk,lk_st,dnC,Ox.cells]⟩ (AS.le_of rfl ⟨rfl,rfl,rfl,rfl,trivial⟩ (fun _=>rfl)) ?_
 clear c1 d1 b1
 rintro ⟨⟨k,L,f,H⟩,⟨k5,hp⟩,hv,h0,h2,h3⟩
 dsimp only at hp hv h0 h2 h3 ⊢
 have hpos : 1 ≤ 2 ^ k:=Nat.one_le_two_pow
 have hL31 : L.length ≤ 31:=by
   have : (L.length + 1) * 1 ≤ (L.length + 1) * 2 ^ k:=Nat.mul_le_mul_left _ hpos
   omega
 by_cases hk0 : k = 0
 · subst hk0
   have ok:=nms_ok (by omega) hv
   have q1 : ¬ (0 : Int) < 0:=by omega
   simp only [diceB,zO,dnC,Ox.cells] at h0 h2 h3
   repeat' (first | intro (hb : _ = _) | refine ZV ?_ | refine ZB tm sp ?_ | refine ZH ?_ ?_ | refine ZJ (by conv=>lhs; simp [h0,h2,h3,q1]) ?_ | refine ZA ?_ ?_)
   refine ⟨(.agg (Ox.cells ⟨1,10,0,[],[],0,0,0,0,[],[],[],0,0,0,L.map Nm.c⟩),[diceB f]),⟨_,f,ok,rfl⟩, ?_⟩
   exact RetB.raw [0] rfl (by conv=>lhs; simp [Ox.cells]) (by decide) (by rintro j hj; have hj : j < 1:=hj; rcases (show j = 0 by omega) with rfl; exact ⟨rfl,by simp [lk_st,h0]⟩) (by simp [lk_st,h0,diceB]) (by simp [Ox.cells])
 · obtain ⟨k',rfl⟩ : ∃ k',k = k' + 1:=⟨k - 1,by omega⟩
   have hp2 : ∀ L2 : List Nm,L2.length ≤ 2 * L.length + 1 → (L2.length + 1) * 2 ^ k' ≤ 32:=fun L2 h=>by
     have e : (L2.length + 1) * 2 ^ k' ≤ ((L.length + 1) * 2) * 2 ^ k':=Nat.mul_le_mul_right _ (by omega)
     have e2 : (L.length + 1) * 2 ^ (k' + 1) = ((L.length + 1) * 2) * 2 ^ k':=by rw [Nat.pow_succ,Nat.mul_comm (2 ^ k') 2,Nat.mul_assoc]
     omega
   have hp1 : (L.length + 1) * 2 ^ k' ≤ 32:=hp2 L (by omega)
   clear hp hpos hk0
   have q1 : (0 : Int) < ((k' + 1 : Nat) : Int):=by omega
   have q1' : 0 < k' + 1:=by omega
   have hw : IntKind.i64.wrap ((k' : Nat) : Int) = ((k' : Nat) : Int):=w64 (by omega) (by omega)
   obtain ⟨r,cP,P,hP8,hPs,rfl⟩:=hSPe ()
   have d1:=diceS_eq f 8
   have d2:=diceS_eq (dl f 8) 5
   have ci:=idS_eq (dl (dl f 8) 5)
   have wi:=idV_wfz (dl (dl f 8) 5)
   have ci2:=idS_eq (d3 (dl (dl f 8) 5))
   have wi2:=idV_wfz (d3 (dl (dl f 8) 5))
   have a0:=dn_nonneg f 8
   have a1:=dn_lt f (n:=8) (by omega)
   have b0:=dn_nonneg (dl f 8) 5
   have b1:=dn_lt (dl f 8) (n:=5) (by omega)
   generalize d3 (d3 (dl (dl f 8) 5)) = f4 at *
   generalize idV (d3 (dl (dl f 8) 5)) = v2 at *
   generalize d3 (dl (dl f 8) 5) = f3 at *
   generalize idV (dl (dl f 8) 5) = v at *
   generalize dl (dl f 8) 5 = f2 at *
   generalize dn (dl f 8) 5 = kd at *
   generalize dl f 8 = f1 at *
   obtain ⟨j,hj⟩ : ∃ k : Nat,dn f 8 = k:=⟨_,(Int.toNat_of_nonneg a0).symm⟩
   rw [hj] at d1 a1
   clear hj a0
   obtain ⟨s,hs⟩ : ∃ s,P[j]? = some s:=⟨_,List.getElem?_eq_getElem (by omega)⟩
   have hm : (P.map sC)[j]? = some [.str s]:=by rw [List.getElem?_map,hs]; rfl
   have hss:=hPs s (List.mem_of_getElem? hs)
   have q2 : ¬ P.length ≤ j:=by omega
   have q3 : (j : Int) < P.length:=by omega
   clear hs hPs hP8
   have Hd : L.length ≤ 100 ∧ ∀ n ∈ L,n.s.size ≤ 10000:=⟨by omega,fun n hn=>(hv n hn).1⟩
   have step : ∀ (kd : Int) (ids : List Int) (hi : ids.length ≤ 100),(Lit.int .i64 kd).wf = true → (∀ v ∈ ids,(Lit.int .u64 v).wf = true) → (∃ L2 : List Nm,L2.length ≤ 2 * L.length + 1 ∧ (∀ n ∈ L2,NmG n) ∧ SA [.agg (dnC L), .agg [.str s, .int .i64 kd, .list 1 (ids.map uX)]] [] = some (.tup [.agg (dnC L2), .int .i64 0],[])) ∨ ∃ e : Int,(e = 1 ∨ e = 7 ∨ e = 9) ∧ SA [.agg (dnC L), .agg [.str s, .int .i64 kd, .list 1 (ids.map uX)]] [] = some (.tup [.agg zO, .int .i64 e],[]):=fun kd ids hi wk wv=>by
     obtain ⟨r,h1,h2⟩:=hSAe (⟨L,Hd⟩,⟨⟨s,kd,ids,hi⟩,hss⟩)
     rcases h2 with ⟨L2,g1,g2,rfl⟩ | ⟨e,g1,rfl⟩
     · exact .inl ⟨L2,g1,fun n hn=>by
         rcases g2 n hn with h | rfl
         · exact hv n h
         · exact ⟨hss,wk,wv⟩,h1⟩
     · exact .inr ⟨e,g1,h1⟩
   clear hSAe hSPe Hd
   have s1 : ∀ kd : Int,(Lit.int .i64 kd).wf = true → _:=fun kd wk=>step kd [v] (by simp) wk (by simpa using wi)
   have s2 : ∀ kd : Int,(Lit.int .i64 kd).wf = true → _:=fun kd wk=>step kd [v,v2] (by simp) wk (by simpa using ⟨wi,wi2⟩)
   clear step wi wi2
   simp only [List.map_cons,List.map_nil,uX] at s1 s2
   simp only [diceB] at h0 d1 d2 ci ci2
   simp only [zO] at h2
   rcases (show kd = 0 ∨ kd = 1 ∨ kd = 2 ∨ kd = 3 ∨ kd = 4 by omega) with rfl | rfl | rfl | rfl | rfl
   · rcases s1 3 (by decide) with ⟨L2,g1,g2,ca⟩ | ⟨e,rfl | rfl | rfl,ca⟩
     all_goals
       simp only [dnC,Ox.cells,zO] at ca h3
       repeat' (first | intro (hb : _ = _) | refine ZV ?_ | refine ZB tm sp ?_ | refine ZH ?_ ?_ | refine ZJ (by conv=>lhs; simp [h0,h2,h3,q1,q1',q2,q3,hm,hw,cP,d1,d2,ci,ca,m5,m1]) ?_ | refine ZA ?_ ?_)
       first
         | exact ⟨⟨(k',L2,f3,_),⟨by dsimp only; omega,hp2 L2 g1⟩,g2,by simp [lk_st,diceB],by simp [lk_st,h2,zO],by simp [lk_st,dnC,Ox.cells]⟩,by dsimp only; omega,AS.le_of rfl ⟨rfl,rfl,rfl,rfl,trivial⟩ (fun _=>rfl)⟩
         | exact ⟨⟨(k',L,f3,_),⟨by dsimp only; omega,hp1⟩,hv,by simp [lk_st,diceB],by simp [lk_st,h2,zO],by simp [lk_st,h3,dnC,Ox.cells]⟩,by dsimp only; omega,AS.le_of rfl ⟨rfl,rfl,rfl,rfl,trivial⟩ (fun _=>rfl)⟩
   · rcases s1 6 (by decide) with ⟨L2,g1,g2,ca⟩ | ⟨e,rfl | rfl | rfl,ca⟩
     all_goals
       simp only [dnC,Ox.cells,zO] at ca h3
       repeat' (first | intro (hb : _ = _) | refine ZV ?_ | refine ZB tm sp ?_ | refine ZH ?_ ?_ | refine ZJ (by conv=>lhs; simp [h0,h2,h3,q1,q1',q2,q3,hm,hw,cP,d1,d2,ci,ca,m5,m1]) ?_ | refine ZA ?_ ?_)
       first
         | exact ⟨⟨(k',L2,f3,_),⟨by dsimp only; omega,hp2 L2 g1⟩,g2,by simp [lk_st,diceB],by simp [lk_st,h2,zO],by simp [lk_st,dnC,Ox.cells]⟩,by dsimp only; omega,AS.le_of rfl ⟨rfl,rfl,rfl,rfl,trivial⟩ (fun _=>rfl)⟩
         | exact ⟨⟨(k',L,f3,_),⟨by dsimp only; omega,hp1⟩,hv,by simp [lk_st,diceB],by simp [lk_st,h2,zO],by simp [lk_st,h3,dnC,Ox.cells]⟩,by dsimp only; omega,AS.le_of rfl ⟨rfl,rfl,rfl,rfl,trivial⟩ (fun _=>rfl)⟩
   · rcases s1 8 (by decide) with ⟨L2,g1,g2,ca⟩ | ⟨e,rfl | rfl | rfl,ca⟩
     all_goals
       simp only [dnC,Ox.cells,zO] at ca h3
       repeat' (first | intro (hb : _ = _) | refine ZV ?_ | refine ZB tm sp ?_ | refine ZH ?_ ?_ | refine ZJ (by conv=>lhs; simp [h0,h2,h3,q1,q1',q2,q3,hm,hw,cP,d1,d2,ci,ca,m5,m1]) ?_ | refine ZA ?_ ?_)
       first
         | exact ⟨⟨(k',L2,f3,_),⟨by dsimp only; omega,hp2 L2 g1⟩,g2,by simp [lk_st,diceB],by simp [lk_st,h2,zO],by simp [lk_st,dnC,Ox.cells]⟩,by dsimp only; omega,AS.le_of rfl ⟨rfl,rfl,rfl,rfl,trivial⟩ (fun _=>rfl)⟩
         | exact ⟨⟨(k',L,f3,_),⟨by dsimp only; omega,hp1⟩,hv,by simp [lk_st,diceB],by simp [lk_st,h2,zO],by simp [lk_st,h3,dnC,Ox.cells]⟩,by dsimp only; omega,AS.le_of rfl ⟨rfl,rfl,rfl,rfl,trivial⟩ (fun _=>rfl)⟩
   · rcases s1 9 (by decide) with ⟨L2,g1,g2,ca⟩ | ⟨e,rfl | rfl | rfl,ca⟩
     all_goals
       simp only [dnC,Ox.cells,zO] at ca h3
       repeat' (first | intro (hb : _ = _) | refine ZV ?_ | refine ZB tm sp ?_ | refine ZH ?_ ?_ | refine ZJ (by conv=>lhs; simp [h0,h2,h3,q1,q1',q2,q3,hm,hw,cP,d1,d2,ci,ca,m5,m1]) ?_ | refine ZA ?_ ?_)
       first
         | exact ⟨⟨(k',L2,f3,_),⟨by dsimp only; omega,hp2 L2 g1⟩,g2,by simp [lk_st,diceB],by simp [lk_st,h2,zO],by simp [lk_st,dnC,Ox.cells]⟩,by dsimp only; omega,AS.le_of rfl ⟨rfl,rfl,rfl,rfl,trivial⟩ (fun _=>rfl)⟩
         | exact ⟨⟨(k',L,f3,_),⟨by dsimp only; omega,hp1⟩,hv,by simp [lk_st,diceB],by simp [lk_st,h2,zO],by simp [lk_st,h3,dnC,Ox.cells]⟩,by dsimp only; omega,AS.le_of rfl ⟨rfl,rfl,rfl,rfl,trivial⟩ (fun _=>rfl)⟩
   · rcases s2 2 (by decide) with ⟨L2,g1,g2,ca⟩ | ⟨e,rfl | rfl | rfl,ca⟩
     all_goals
       simp only [dnC,Ox.cells,zO] at ca h3
       repeat' (first | intro (hb : _ = _) | refine ZV ?_ | refine ZB tm sp ?_ | refine ZH ?_ ?_ | refine ZJ (by conv=>lhs; simp [h0,h2,h3,q1,q1',q2,q3,hm,hw,cP,d1,d2,ci,ca,m5,m1,m2x,ci2]) ?_ | refine ZA ?_ ?_)
       first
         | exact ⟨⟨(k',L2,f4,_),⟨by dsimp only; omega,hp2 L2 g1⟩,g2,by simp [lk_st,diceB],by simp [lk_st,h2,zO],by simp [lk_st,dnC,Ox.cells]⟩,by dsimp only; omega,AS.le_of rfl ⟨rfl,rfl,rfl,rfl,trivial⟩ (fun _=>rfl)⟩
         | exact ⟨⟨(k',L,f4,_),⟨by dsimp only; omega,hp1⟩,hv,by simp [lk_st,diceB],by simp [lk_st,h2,zO],by simp [lk_st,h3,dnC,Ox.cells]⟩,by dsimp only; omega,AS.le_of rfl ⟨rfl,rfl,rfl,rfl,trivial⟩ (fun _=>rfl)⟩
end
end Go.Abs.Nx
