/- The reference of directories: returning. Conditions: none. -/
import Derived.Test.YtmcbpehpogjmoaaNp7
import Derived.Test.YtmcbpehpogjmoaaNp4
import Derived.Test.YtmcbpehpogjmoaaNp6
import Derived.Test.YtmcbpehpogjmoaaNp1
import Derived.Test.YtmcbpehpogjmoaaNp5
namespace Go.Abs.Np
open Go Go.Proofs Go.Abs
set_option maxRecDepth 100000
set_option maxHeartbeats 4000000
set_option linter.unusedSimpArgs false
set_option linter.unusedVariables false
section
attribute [local simp] instA slice3A slice3C
attribute [-simp] mkv
attribute [local simp] mkv_hd hdA_cons hdA_ob hdA_ob'
noncomputable def rret_specs : NL Spec := [(62,⟨1,vdS⟩),(64,⟨1,rfnS⟩),(65,⟨1,hasS⟩),(67,⟨1,zeS⟩),(68,⟨1,wioS⟩),(66,⟨1,ronS⟩)]
theorem rret_specs_ok : ∀ p ∈ rret_specs,FnC Try.prog p.1 p.2.fn := by
 simp only [rret_specs,List.mem_cons,List.not_mem_nil,or_false]
 rintro p (rfl | rfl | rfl | rfl | rfl | rfl)
 · exact rvd_ok
 · exact rfn_ok
 · exact rhas_ok
 · exact rzero_ok
 · exact rwio_ok
 · exact ron_ok
attribute [local simp] rret_specs
theorem oth_nil (n : Int) : Dir.oth [] n = [] := rfl
theorem rret_ok : FnC Try.prog 36 retS := by
 refine FnC.walkN 36 (fn:=Try.f36) [27,61,38] Try.func36 rfl (by kernel_rfl) (fun x=>?_) (fun x=>⟨_,rD_nrm _ _ _ _⟩)
 obtain ⟨⟨nd,l,hl,he⟩,id,n,ob⟩:=x
 have cv:=vdS_eq ⟨nd,l,hl,he⟩
 have co:=zeS_eq ob
 have ce:=rfnS_eq ⟨nd,l,hl,he⟩ id
 simp only [Drs.v] at cv ce
 change W _ (RetNf _ _ _ (rD (retL ⟨nd,l,hl,he⟩ id n ob).1 (retL ⟨nd,l,hl,he⟩ id n ob).2.1 (retL ⟨nd,l,hl,he⟩ id n ob).2.2.1 (retL ⟨nd,l,hl,he⟩ id n ob).2.2.2) []) _ _ ⟨75,[(0, .agg [.int .i64 nd, .list 41 (l.map enC)]),(1, .int .u64 id),(2, .int .i64 n),(3, .agg ob.cells)],[]⟩
 generalize hR : retL ⟨nd,l,hl,he⟩ id n ob = R
 unfold retL at hR
 dsimp only at hR
 cases hv : validD nd l with
 | false =>
   rw [if_pos hv] at hR
   subst hR
   rw [hv] at cv
   repeat' (first | intro (hb : _ = _) | refine ZV ?_ | refine ZB tm rret_specs_ok ?_ | refine ZH ?_ ?_ | refine ZJ (by conv=>lhs; simp [cv]) ?_ | refine ZA ?_ ?_)
   refine Ye ?_
   exact rD_nrm0 1
 | true =>
   rw [if_neg (by simp [hv])] at hR
   rw [hv] at cv
   by_cases h0 : id = 0
   · have g0 : (id == 0) = true:=by simp [h0]
     rw [if_pos (by simp [g0])] at hR
     subst hR
     clear h0
     repeat' (first | intro (hb : _ = _) | refine ZV ?_ | refine ZB tm rret_specs_ok ?_ | refine ZH ?_ ?_ | refine ZJ (by conv=>lhs; simp [cv,ce,g0]) ?_ | refine ZA ?_ ?_)
     refine Ye ?_
     exact rD_nrm0 8
   · have g0 : (id == 0) = false:=by simp [h0]
     by_cases hneg : n < 0
     · rw [if_pos (by simp [okN]; omega)] at hR
       subst hR
       clear h0
       repeat' (first | intro (hb : _ = _) | refine ZV ?_ | refine ZB tm rret_specs_ok ?_ | refine ZH ?_ ?_ | refine ZJ (by conv=>lhs; simp [cv,ce,g0,hneg]) ?_ | refine ZA ?_ ?_)
       refine Ye ?_
       exact rD_nrm0 8
     · obtain ⟨oe,oa,o1,o2⟩:=fndD_ok he hv id
       have hh:=fnd_hn hv h0
       have h6:=validD_ascE hv
       have g1 : 0 ≤ n:=by omega
       have g2 : ¬ n < 0:=by omega
       generalize fndD id l = e at *
       obtain ⟨id',ow,rd,o,wt,q⟩:=e
       obtain ⟨-, -,o3⟩:=oe
       have hh1:=hh.o1
       have hh2:=hh.o2
       have hhq:=hh.qu
       have hhw:=hh.ow
       have hhr:=hh.rd
       dsimp only at oa o1 o2 o3 ce hR hh1 hh2 hhq hhw hhr
       have c3:=hasS_eq rd (by omega) n
       have hq5 : ∀ p ∈ q,0 ≤ p.1 ∧ (p.2 = 1 ∨ p.2 = 2):=fun p hp=>by
         have:=hhq p hp
         exact ⟨(okN_iff.1 this.1).1,by simpa [okM] using this.2⟩
       have cw2:=wioS_eq wt (by omega) n
       have l2 : (Dir.oth wt n).length ≤ wt.length:=List.length_filter_le _ _
       simp only [enC] at ce
       clear h0 hneg hhq hv hh
       by_cases ho : ow = n
       · have hN : okN n = true:=okN_iff.2 ⟨g1,by omega⟩
         have hrd : rd = []:=by
           rcases hhw with h | h
           · omega
           · exact h.1
         subst hrd ho
         have eo : (ow != ow) = false:=by simp
         have eo2 : (ow == ow) = true:=by simp
         rw [if_neg (by simp [g0,hN])] at hR
         by_cases hz : (oid ob == id || zO? ob) = true
         · rw [if_neg (by simp [hz])] at hR
           unfold retD at hR
           dsimp only at hR
           rw [if_pos rfl] at hR
           have cw1:=wioS_eq [] (by simp) ow
           rw [oth_nil] at cw1
           simp only [List.map_nil] at cw1
           have cF:=ronS_eq ⟨⟨nd,l,hl,he⟩,⟨id', -1,[],ob,Dir.oth wt ow,q⟩,by simp; omega,by dsimp only; omega,List.Pairwise.nil,by dsimp only; omega,hq5,h6⟩
           simp only [Drs.v,rO,enC,List.map_nil] at cF
           generalize goM ⟨id', -1,[],ob,Dir.oth wt ow,q⟩ nd = ms at *
           generalize Dir.goOn zOb ⟨id', -1,[],ob,Dir.oth wt ow,q⟩ = G at *
           obtain ⟨m0,e'⟩:=G
           dsimp only at cF hR
           generalize putD e' l = L at *
           generalize Dir.oth wt ow = wt' at *
           subst hR
           clear hhw hhr hN oa l2 hq5 h6
           generalize hzo : zO? ob = z at *
           cases z with
           | true =>
             repeat' (first | intro (hb : _ = _) | refine ZV ?_ | refine ZB tm rret_specs_ok ?_ | refine ZH ?_ ?_ | refine ZJ (by conv=>lhs; simp [cv,g0,ce,co,c3,eo,eo2,g2,cw1,cw2,cF]) ?_ | refine ZA ?_ ?_)
             refine Ye ?_
             exact rD_nrm nd L ms 0
           | false =>
             have hz2 : (oid ob != id) = false:=by simpa using hz
             repeat' (first | intro (hb : _ = _) | refine ZV ?_ | refine ZB tm rret_specs_ok ?_ | refine ZH ?_ ?_ | refine ZJ (by conv=>lhs; simp [cv,g0,ce,co,c3,eo,eo2,g2,hz2,cw1,cw2,cF]) ?_ | refine ZA ?_ ?_)
             refine Ye ?_
             exact rD_nrm nd L ms 0
         · rw [if_pos (by simpa using hz)] at hR
           subst hR
           have hz1 : zO? ob = false:=by
             cases h : zO? ob
             · rfl
             · rw [h] at hz; simp at hz
           have hz2 : (oid ob != id) = true:=by
             rw [hz1] at hz
             simpa using hz
           rw [hz1] at co
           clear hz hhw hhr hN oa l2 hq5 h6
           repeat' (first | intro (hb : _ = _) | refine ZV ?_ | refine ZB tm rret_specs_ok ?_ | refine ZH ?_ ?_ | refine ZJ (by conv=>lhs; simp [cv,g0,ce,co,c3,eo,eo2,g2,hz2]) ?_ | refine ZA ?_ ?_)
           refine Ye ?_
           exact rD_nrm0 10
       · have eo : (ow != n) = true:=by simp [ho]
         have eo2 : (ow == n) = false:=by simp [ho]
         by_cases hr : n ∈ rd
         · have hN : okN n = true:=(ascN_iff.1 hhr).1 n hr
           rw [if_neg (by simp [g0,hN,hr])] at hR
           rw [if_neg (by simp [eo2])] at hR
           have hd : decide (n ∈ rd) = true:=by simp [hr]
           rw [hd] at c3
           unfold retD at hR
           dsimp only at hR
           rw [if_neg ho] at hR
           have cw1:=wioS_eq rd (by omega) n
           have l1 : (Dir.oth rd n).length ≤ rd.length:=List.length_filter_le _ _
           have cF:=ronS_eq ⟨⟨nd,l,hl,he⟩,⟨id',ow,Dir.oth rd n,o,Dir.oth wt n,q⟩,by dsimp only; omega,by dsimp only; omega,Dir.asc_oth oa n,hh1,hq5,h6⟩
           simp only [Drs.v,rO,enC] at cF
           generalize goM ⟨id',ow,Dir.oth rd n,o,Dir.oth wt n,q⟩ nd = ms at *
           generalize Dir.goOn zOb ⟨id',ow,Dir.oth rd n,o,Dir.oth wt n,q⟩ = G at *
           obtain ⟨m0,e'⟩:=G
           dsimp only at cF hR
           generalize putD e' l = L at *
           generalize Dir.oth wt n = wt' at *
           generalize Dir.oth rd n = rd' at *
           subst hR
           clear hhw hhr hN oa l1 l2 hq5 h6 hr hd ho
           repeat' (first | intro (hb : _ = _) | refine ZV ?_ | refine ZB tm rret_specs_ok ?_ | refine ZH ?_ ?_ | refine ZJ (by conv=>lhs; simp [cv,g0,ce,co,c3,eo,eo2,g2,cw1,cw2,cF]) ?_ | refine ZA ?_ ?_)
           refine Ye ?_
           exact rD_nrm nd L ms 0
         · rw [if_pos (by simp [eo,hr])] at hR
           subst hR
           have hd : decide (n ∈ rd) = false:=by simp [hr]
           rw [hd] at c3
           clear hhw hhr oa l2 hq5 h6 hr hd ho
           repeat' (first | intro (hb : _ = _) | refine ZV ?_ | refine ZB tm rret_specs_ok ?_ | refine ZH ?_ ?_ | refine ZJ (by conv=>lhs; simp [cv,g0,ce,c3,eo,eo2,g2]) ?_ | refine ZA ?_ ?_)
           refine Ye ?_
           exact rD_nrm0 8
end
section
attribute [local simp] instA
end
section
attribute [local simp] instA
set_option maxHeartbeats 8000000
end
section
attribute [local simp] instA
attribute [-simp] mkv
attribute [local simp] mkv_hd hdA_cons hdA_ob hdA_ob'
end
section
theorem wntS_eq (d : Tks) (id m home : Int) : wntS [d.v, .int .u64 id, .int .i64 m, .int .i64 home] [] = some (rU (wnt d id m home).1 (wnt d id m home).2.1 (wnt d id m home).2.2.1 (wnt d id m home).2.2.2,[]) :=
 mkS_eq (enc:=fun d : Tks × Int × Int × Int=>[d.1.v, .int .u64 d.2.1, .int .i64 d.2.2.1, .int .i64 d.2.2.2]) (res:=fun d=>(rU (wnt d.1 d.2.1 d.2.2.1 d.2.2.2).1 (wnt d.1 d.2.1 d.2.2.1 d.2.2.2).2.1 (wnt d.1 d.2.1 d.2.2.1 d.2.2.2).2.2.1 (wnt d.1 d.2.1 d.2.2.1 d.2.2.2).2.2.2,[])) (fun x y h=>by
   obtain ⟨a,b,c,e⟩:=x
   obtain ⟨a',b',c',e'⟩:=y
   simp only [List.cons.injEq,AV.int.injEq,true_and,and_true] at h
   obtain ⟨h,rfl,rfl,rfl⟩:=h
   cases Tks.v_inj h
   rfl) (d,id,m,home)
theorem Msg.v_inj {a b : Msg} (h : a.v = b.v) : a = b := by
 obtain ⟨a1,a2,a3,a4,a5,o,a6,a7,a8,a9⟩:=a
 obtain ⟨b1,b2,b3,b4,b5,q,b6,b7,b8,b9⟩:=b
 simp only [Msg.v,List.cons.injEq,AV.int.injEq,true_and] at h
 obtain ⟨rfl,rfl,rfl,rfl,rfl,h⟩:=h
 obtain ⟨h1,h2⟩:=List.append_inj h (by simp)
 simp only [List.cons.injEq,AV.int.injEq,true_and,and_true] at h2
 obtain ⟨rfl,rfl,rfl,rfl⟩:=h2
 rw [Td.ext h1]
theorem grtS_eq (d : Tks) (m : Msg) : grtS [d.v, .agg m.v] [] = some (rT (grt d m).1 (grt d m).2.1 (grt d m).2.2,[]) :=
 mkS_eq (enc:=fun d : Tks × Msg=>[d.1.v, .agg d.2.v]) (res:=fun d=>(rT (grt d.1 d.2).1 (grt d.1 d.2).2.1 (grt d.1 d.2).2.2,[])) (fun x y h=>by
   obtain ⟨a,b⟩:=x
   obtain ⟨a',b'⟩:=y
   simp only [List.cons.injEq,AV.agg.injEq,and_true] at h
   cases Tks.v_inj h.1
   cases Msg.v_inj h.2
   rfl) (d,m)
theorem rvkS_eq (d : Tks) (m : Msg) : rvkS [d.v, .agg m.v] [] = some (rU (rvk d m).1 (rvk d m).2.1 (rvk d m).2.2.1 (rvk d m).2.2.2,[]) :=
 mkS_eq (enc:=fun d : Tks × Msg=>[d.1.v, .agg d.2.v]) (res:=fun d=>(rU (rvk d.1 d.2).1 (rvk d.1 d.2).2.1 (rvk d.1 d.2).2.2.1 (rvk d.1 d.2).2.2.2,[])) (fun x y h=>by
   obtain ⟨a,b⟩:=x
   obtain ⟨a',b'⟩:=y
   simp only [List.cons.injEq,AV.agg.injEq,and_true] at h
   cases Tks.v_inj h.1
   cases Msg.v_inj h.2
   rfl) (d,m)
def dvC (id n : Int) : List AV := [.int .u64 id, .int .i64 9, .int .i64 0, .int .i64 0, .int .u64 0, .nils, .nils, .nils, .int .i64 0, .int .i64 0, .int .i64 0, .int .i64 0, .int .i64 0, .int .i64 0, .int .i64 0, .int .i64 0, .int .i64 0, .int .i64 0, .nils, .nils, .int .i64 0, .int .i64 0, .int .i64 0, .nils, .nils, .int .i64 0, .int .u64 0, .int .i64 0, .int .i64 0, .nils, .nils, .nils, .int .i64 0, .int .i64 0, .int .i64 n, .nils]
def dvN (id n : Int) : List AV := [.int .u64 id, .int .i64 9, .int .i64 0, .int .i64 0, .int .u64 0, .list 1 [], .list 4 [], .list 1 [], .int .i64 0, .int .i64 0, .int .i64 0, .int .i64 0, .int .i64 0, .int .i64 0, .int .i64 0, .int .i64 0, .int .i64 0, .int .i64 0, .list 2 [], .list 4 [], .int .i64 0, .int .i64 0, .int .i64 0, .list 1 [], .list 1 [], .int .i64 0, .int .u64 0, .int .i64 0, .int .i64 0, .list 1 [], .list 1 [], .list 1 [], .int .i64 0, .int .i64 0, .int .i64 n, .list 3 []]
theorem dv_nrm (id n : Int) : nrmL Try.prog (leafs Try.prog 60) (dvC id n) = dvN id n := by kernel_rfl
theorem wf0i : (Lit.int .i64 0).wf = true := by decide
theorem wf9i : (Lit.int .i64 9).wf = true := by decide
theorem wf0u : (Lit.int .u64 0).wf = true := by decide
theorem dv_p {id n : Int} (h1 : (Lit.int .u64 id).wf = true) (h2 : (Lit.int .i64 n).wf = true) : tyP Try.prog 8 60 (dvN id n) = some [] := by
 simp [tyP,tyFsP,tyB,tyI,tyS,dvN,List.replicate,Try.underlying60,Try.underlying41,Try.underlying3,Try.underlying54,Try.underlying43,Try.underlying47,Try.underlying44,Try.underlying45,Try.underlying50,Try.underlying48,Try.underlying2,Try.underlying51,Try.underlying52,Try.underlying55,Try.underlying22,Try.underlying56,Try.underlying57,Try.underlying58,vc41,vc153,vc9,vc142,vc145,vc2,vc5,vc116,h1,h2,wf0i,wf9i,wf0u]
theorem dv_ty {id n : Int} (h1 : (Lit.int .u64 id).wf = true) (h2 : (Lit.int .i64 n).wf = true) : TyR Try.prog 8 60 (dvN id n) := by
 obtain ⟨a,e1,e2⟩:=tyP_ok 8 _ _ _ (dv_p h1 h2)
 rw [List.append_nil] at e1
 rw [e1]
 exact e2
theorem dv_bd (id n : Int) : bdL 10000 (dvN id n) = true := by kernel_rfl
def dvO (id n : Int) (h1 : (Lit.int .u64 id).wf = true) (h2 : (Lit.int .i64 n).wf = true) : Ob := ⟨dvN id n,dv_ty h1 h2,dv_bd id n⟩
end
section
attribute [local simp] instA slice3A slice3C
attribute [-simp] mkv
attribute [local simp] mkv_hd hdA_cons hdA_ob hdA_ob'
def DlvR (g : Grd) (a b : Int) (g' : Grd) : Prop :=
 g.ls.length ≤ 9000 ∧ (∀ l ∈ g.ls,okK l) ∧ ∃ m L e,dlvN g.ls a b = (m,L,e) ∧
   ((e ≠ 0 ∧ g' = g) ∨ (e = 0 ∧
     ((m.kind = 1 ∧ ∃ (h1 : g.es.length ≤ 9000) (h2 : ∀ e ∈ g.es,okE e) (es : List En) (ms : List Msg),askL ⟨0,g.es,h1,h2⟩ m.id m.fr m.mode = (0,es,ms,0) ∧ ms.length ≤ 9000 ∧ SendOK L ms ∧ g' = { g with es:=es,ls:=sendF L ms }) ∨
      (m.kind = 4 ∧ ∃ (h1 : g.es.length ≤ 9000) (h2 : ∀ e ∈ g.es,okE e) (es : List En) (ms : List Msg),retL ⟨0,g.es,h1,h2⟩ m.id m.fr m.obj = (0,es,ms,0) ∧ ms.length ≤ 9000 ∧ SendOK L ms ∧ g' = { g with es:=es,ls:=sendF L ms }) ∨
      (m.kind = 2 ∧ ∃ (h1 : (g.tk b).length ≤ 9000) (l : List Tok),grt ⟨b,g.tk b,h1⟩ m = (b,l,0) ∧ g' = { g.set b l with ls:=L }) ∨
      (m.kind = 3 ∧ ∃ (h1 : (g.tk b).length ≤ 9000) (l : List Tok) (ms : List Msg),rvk ⟨b,g.tk b,h1⟩ m = (b,l,ms,0) ∧ ms.length ≤ 9000 ∧ SendOK L ms ∧ g' = { g.set b l with ls:=sendF L ms }))))
theorem DlvR.one {g : Grd} {a b : Int} {g1 g2 : Grd} (h1 : DlvR g a b g1) (h2 : DlvR g a b g2) : g1 = g2 := by
 obtain ⟨_,_,m,L,e,h,h1⟩:=h1
 obtain ⟨_,_,m',L',e',h',h2⟩:=h2
 rw [h] at h'
 simp only [Prod.mk.injEq] at h'
 obtain ⟨rfl,rfl,rfl⟩:=h'
 rcases h1 with ⟨k1,rfl⟩ | ⟨k1,h1⟩ <;> rcases h2 with ⟨k2,rfl⟩ | ⟨k2,h2⟩
 · rfl
 · exact absurd k2 k1
 · exact absurd k1 k2
 rcases h1 with ⟨k1,q1,q2,es,ms,h1,_,_,rfl⟩ | ⟨k1,q1,q2,es,ms,h1,_,_,rfl⟩ | ⟨k1,q1,l,h1,rfl⟩ | ⟨k1,q1,l,ms,h1,_,_,rfl⟩ <;> rcases h2 with ⟨k2,p1,p2,es',ms',h2,_,_,rfl⟩ | ⟨k2,p1,p2,es',ms',h2,_,_,rfl⟩ | ⟨k2,p1,l',h2,rfl⟩ | ⟨k2,p1,l',ms',h2,_,_,rfl⟩ <;> first | omega | (rw [h1] at h2; simp only [Prod.mk.injEq,true_and,and_true] at h2; first | (obtain ⟨rfl,rfl⟩:=h2; rfl) | (subst h2; rfl))
def GD := { x : (Grd × Int × Int) × Grd // N3 x.1.2.2 ∧ DlvR x.1.1 x.1.2.1 x.1.2.2 x.2 }
noncomputable def gdlS : SpecFn := mkS2 (fun x : GD => ([.ptr 0 0 0 0, .int .i64 x.1.1.2.1, .int .i64 x.1.1.2.2],[grB 0 x.1.1.1])) fun x => (.bool true,[grB 0 x.1.2])
theorem gdlS_eq {g : Grd} {a b : Int} {g' : Grd} (hb : N3 b) (h : DlvR g a b g') : gdlS [.ptr 0 0 0 0, .int .i64 a, .int .i64 b] [grB 0 g] = some (.bool true,[grB 0 g']) :=
 mkS2_eq (enc:=fun x : GD=>([AV.ptr 0 0 0 0, .int .i64 x.1.1.2.1, .int .i64 x.1.1.2.2],[grB 0 x.1.1.1])) (res:=fun x : GD=>(.bool true,[grB 0 x.1.2])) (fun x y h=>by
   obtain ⟨⟨⟨g,a,b⟩,g1⟩,_,h1⟩:=x
   obtain ⟨⟨⟨g',a',b'⟩,g2⟩,_,h2⟩:=y
   simp only [Prod.mk.injEq,List.cons.injEq,AV.int.injEq,true_and,and_true] at h
   obtain ⟨⟨rfl,rfl⟩,h⟩:=h
   cases grB_inj h
   cases h1.one h2
   rfl) (⟨((g,a,b),g'),hb,h⟩ : GD)
noncomputable def gdl_specs : NL Spec := [(34,⟨1,dlvS⟩),(35,⟨1,askS⟩),(36,⟨1,retS⟩),(15,⟨1,grtS⟩),(16,⟨1,rvkS⟩),(8,⟨3,gsnS⟩)]
theorem gdl_specs_ok : ∀ p ∈ gdl_specs,FnC Try.prog p.1 p.2.fn := by
 simp only [gdl_specs,List.mem_cons,List.not_mem_nil,or_false]
 rintro p (rfl | rfl | rfl | rfl | rfl | rfl)
 · exact dlv_ok
 · exact rask_ok
 · exact rret_ok
 · exact grtp_ok
 · exact rvkp_ok
 · exact gsn_ok
attribute [local simp] gdl_specs
theorem gdl_e (a1 a2 a3 : List Tok) (es : List En) (ls : List Lk) (v0 v1 a b : Int) (hl : ls.length ≤ 9000) (hq : ∀ l ∈ ls,okK l) (m : Msg) (L : List Lk) (e : Int) (hd : dlvN ls a b = (m,L,e)) (he : e ≠ 0) : W Try.prog (RetB Try.prog Try.f13 1 (.bool true) [grB 0 ⟨a1,a2,a3,es,ls,v0,v1⟩]) (codeOf Try.f13) [] ⟨141,[(0, .ptr 0 0 0 0),(1, .int .i64 a),(2, .int .i64 b)],[(0,grB 0 ⟨a1,a2,a3,es,ls,v0,v1⟩)]⟩ := by
 have cd:=dlvS_eq ⟨ls,hl,hq⟩ a b
 rw [show dlvN (⟨ls,hl,hq⟩ : Nts).ls a b = _ from hd] at cd
 obtain ⟨c1,c2,c3,c4,c5,p,c6,c7,c8,c9⟩:=m
 simp only [Nts.v,rDl,Msg.v] at cd
 have e1 : (e != 0) = true:=by simp [he]
 repeat' (first | intro (hb : _ = _) | refine ZV ?_ | refine ZB tm gdl_specs_ok ?_ | refine ZH ?_ ?_ | refine ZJ (by conv=>lhs; simp [cd,e1,grB,Grd.row]) ?_ | refine ZA ?_ ?_)
 refine RetB.raw [0] rfl (by conv=>lhs; simp) (by decide) (by rintro j hj; have hj : j < 1:=hj; rcases (show j = 0 by omega) with rfl; exact ⟨rfl,by simp [lk_st,grB]⟩) (by simp [lk_st,grB,Grd.row,renL,AV.ren]) (by simp)
theorem gdl_a (a1 a2 a3 : List Tok) (es : List En) (ls : List Lk) (v0 v1 a b : Int) (hl : ls.length ≤ 9000) (hq : ∀ l ∈ ls,okK l) (c1 c2 c4 c5 c6 c7 c8 c9 : Int) (p : Ob) (L : List Lk) (hd : dlvN ls a b = (⟨c1,c2,1,c4,c5,p,c6,c7,c8,c9⟩,L,0)) (k1 : es.length ≤ 9000) (k2 : ∀ e ∈ es,okE e) (es1 : List En) (ms : List Msg) (hc : askL ⟨0,es,k1,k2⟩ c4 c1 c5 = (0,es1,ms,0)) (hm : ms.length ≤ 9000) (hs : SendOK L ms) : W Try.prog (RetB Try.prog Try.f13 1 (.bool true) [grB 0 (⟨a1,a2,a3,es1,sendF L ms,v0,v1⟩ : Grd)]) (codeOf Try.f13) [] ⟨141,[(0, .ptr 0 0 0 0),(1, .int .i64 a),(2, .int .i64 b)],[(0,grB 0 ⟨a1,a2,a3,es,ls,v0,v1⟩)]⟩ := by
 have cd:=dlvS_eq ⟨ls,hl,hq⟩ a b
 rw [show dlvN (⟨ls,hl,hq⟩ : Nts).ls a b = _ from hd] at cd
 simp only [Nts.v,rDl,Msg.v] at cd
 have cs:=gsnS_eq ⟨a1,a2,a3,es1,L,v0,v1⟩ ms hm hs
 have ca:=askS_eq ⟨0,es,k1,k2⟩ c4 c1 c5
 rw [hc] at ca
 simp only [Drs.v,rD] at ca
 have hG : (⟨a1,a2,a3,es1,L,v0,v1⟩ : Grd).sent ms = ⟨a1,a2,a3,es1,sendF L ms,v0,v1⟩:=rfl
 rw [hG] at cs
 generalize sendF L ms = L2 at *
 simp only [grB,Grd.row] at cs
 clear hc hs hd hG
 repeat' (first | intro (hb : _ = _) | refine ZV ?_ | refine ZB tm gdl_specs_ok ?_ | refine ZH ?_ ?_ | refine ZJ (by conv=>lhs; simp [cd,ca,cs,m1,grB,Grd.row]) ?_ | refine ZA ?_ ?_)
 refine RetB.raw [0] rfl (by conv=>lhs; simp) (by decide) (by rintro j hj; have hj : j < 1:=hj; rcases (show j = 0 by omega) with rfl; exact ⟨rfl,by simp [lk_st,grB]⟩) (by simp [lk_st,grB,Grd.row,renL,AV.ren]) (by simp)
theorem gdl_r (a1 a2 a3 : List Tok) (es : List En) (ls : List Lk) (v0 v1 a b : Int) (hl : ls.length ≤ 9000) (hq : ∀ l ∈ ls,okK l) (c1 c2 c4 c5 c6 c7 c8 c9 : Int) (p : Ob) (L : List Lk) (hd : dlvN ls a b = (⟨c1,c2,4,c4,c5,p,c6,c7,c8,c9⟩,L,0)) (k1 : es.length ≤ 9000) (k2 : ∀ e ∈ es,okE e) (es1 : List En) (ms : List Msg) (hc : retL ⟨0,es,k1,k2⟩ c4 c1 p = (0,es1,ms,0)) (hm : ms.length ≤ 9000) (hs : SendOK L ms) : W Try.prog (RetB Try.prog Try.f13 1 (.bool true) [grB 0 (⟨a1,a2,a3,es1,sendF L ms,v0,v1⟩ : Grd)]) (codeOf Try.f13) [] ⟨141,[(0, .ptr 0 0 0 0),(1, .int .i64 a),(2, .int .i64 b)],[(0,grB 0 ⟨a1,a2,a3,es,ls,v0,v1⟩)]⟩ := by
 have cd:=dlvS_eq ⟨ls,hl,hq⟩ a b
 rw [show dlvN (⟨ls,hl,hq⟩ : Nts).ls a b = _ from hd] at cd
 simp only [Nts.v,rDl,Msg.v] at cd
 have cs:=gsnS_eq ⟨a1,a2,a3,es1,L,v0,v1⟩ ms hm hs
 have ca:=retS_eq ⟨0,es,k1,k2⟩ c4 c1 p
 rw [hc] at ca
 simp only [Drs.v,rD] at ca
 have hG : (⟨a1,a2,a3,es1,L,v0,v1⟩ : Grd).sent ms = ⟨a1,a2,a3,es1,sendF L ms,v0,v1⟩:=rfl
 rw [hG] at cs
 generalize sendF L ms = L2 at *
 simp only [grB,Grd.row] at cs
 clear hc hs hd hG
 repeat' (first | intro (hb : _ = _) | refine ZV ?_ | refine ZB tm gdl_specs_ok ?_ | refine ZH ?_ ?_ | refine ZJ (by conv=>lhs; simp [cd,ca,cs,m1,grB,Grd.row]) ?_ | refine ZA ?_ ?_)
 refine RetB.raw [0] rfl (by conv=>lhs; simp) (by decide) (by rintro j hj; have hj : j < 1:=hj; rcases (show j = 0 by omega) with rfl; exact ⟨rfl,by simp [lk_st,grB]⟩) (by simp [lk_st,grB,Grd.row,renL,AV.ren]) (by simp)
theorem gdl_g0 (a1 a2 a3 : List Tok) (es : List En) (ls : List Lk) (v0 v1 a : Int) (hl : ls.length ≤ 9000) (hq : ∀ l ∈ ls,okK l) (c1 c2 c4 c5 c6 c7 c8 c9 : Int) (p : Ob) (L : List Lk) (hd : dlvN ls a 0 = (⟨c1,c2,2,c4,c5,p,c6,c7,c8,c9⟩,L,0)) (k1 : a1.length ≤ 9000) (l1 : List Tok) (hc : grt ⟨0,a1,k1⟩ ⟨c1,c2,2,c4,c5,p,c6,c7,c8,c9⟩ = (0,l1,0)) : W Try.prog (RetB Try.prog Try.f13 1 (.bool true) [grB 0 (⟨l1,a2,a3,es,L,v0,v1⟩ : Grd)]) (codeOf Try.f13) [] ⟨141,[(0, .ptr 0 0 0 0),(1, .int .i64 a),(2, .int .i64 0)],[(0,grB 0 ⟨a1,a2,a3,es,ls,v0,v1⟩)]⟩ := by
 have cd:=dlvS_eq ⟨ls,hl,hq⟩ a 0
 rw [show dlvN (⟨ls,hl,hq⟩ : Nts).ls a 0 = _ from hd] at cd
 simp only [Nts.v,rDl,Msg.v] at cd
 have ca:=grtS_eq ⟨0,a1,k1⟩ ⟨c1,c2,2,c4,c5,p,c6,c7,c8,c9⟩
 rw [hc] at ca
 simp only [Tks.v,rT,Msg.v] at ca
 clear hc hd
 repeat' (first | intro (hb : _ = _) | refine ZV ?_ | refine ZB tm gdl_specs_ok ?_ | refine ZH ?_ ?_ | refine ZJ (by conv=>lhs; simp [cd,ca,m1,grB,Grd.row]) ?_ | refine ZA ?_ ?_)
 refine RetB.raw [0] rfl (by conv=>lhs; simp) (by decide) (by rintro j hj; have hj : j < 1:=hj; rcases (show j = 0 by omega) with rfl; exact ⟨rfl,by simp [lk_st,grB]⟩) (by simp [lk_st,grB,Grd.row,renL,AV.ren]) (by simp)
theorem gdl_v0 (a1 a2 a3 : List Tok) (es : List En) (ls : List Lk) (v0 v1 a : Int) (hl : ls.length ≤ 9000) (hq : ∀ l ∈ ls,okK l) (c1 c2 c4 c5 c6 c7 c8 c9 : Int) (p : Ob) (L : List Lk) (hd : dlvN ls a 0 = (⟨c1,c2,3,c4,c5,p,c6,c7,c8,c9⟩,L,0)) (k1 : a1.length ≤ 9000) (l1 : List Tok) (ms : List Msg) (hc : rvk ⟨0,a1,k1⟩ ⟨c1,c2,3,c4,c5,p,c6,c7,c8,c9⟩ = (0,l1,ms,0)) (hm : ms.length ≤ 9000) (hs : SendOK L ms) : W Try.prog (RetB Try.prog Try.f13 1 (.bool true) [grB 0 (⟨l1,a2,a3,es,sendF L ms,v0,v1⟩ : Grd)]) (codeOf Try.f13) [] ⟨141,[(0, .ptr 0 0 0 0),(1, .int .i64 a),(2, .int .i64 0)],[(0,grB 0 ⟨a1,a2,a3,es,ls,v0,v1⟩)]⟩ := by
 have cd:=dlvS_eq ⟨ls,hl,hq⟩ a 0
 rw [show dlvN (⟨ls,hl,hq⟩ : Nts).ls a 0 = _ from hd] at cd
 simp only [Nts.v,rDl,Msg.v] at cd
 have ca:=rvkS_eq ⟨0,a1,k1⟩ ⟨c1,c2,3,c4,c5,p,c6,c7,c8,c9⟩
 have cs:=gsnS_eq ⟨l1,a2,a3,es,L,v0,v1⟩ ms hm hs
 rw [hc] at ca
 simp only [Tks.v,rU,Msg.v] at ca
 have hG : (⟨l1,a2,a3,es,L,v0,v1⟩ : Grd).sent ms = ⟨l1,a2,a3,es,sendF L ms,v0,v1⟩:=rfl
 rw [hG] at cs
 generalize sendF L ms = L2 at *
 simp only [grB,Grd.row] at cs
 clear hc hs hd hG
 repeat' (first | intro (hb : _ = _) | refine ZV ?_ | refine ZB tm gdl_specs_ok ?_ | refine ZH ?_ ?_ | refine ZJ (by conv=>lhs; simp [cd,ca,cs,m1,grB,Grd.row]) ?_ | refine ZA ?_ ?_)
 refine RetB.raw [0] rfl (by conv=>lhs; simp) (by decide) (by rintro j hj; have hj : j < 1:=hj; rcases (show j = 0 by omega) with rfl; exact ⟨rfl,by simp [lk_st,grB]⟩) (by simp [lk_st,grB,Grd.row,renL,AV.ren]) (by simp)
theorem gdl_g1 (a1 a2 a3 : List Tok) (es : List En) (ls : List Lk) (v0 v1 a : Int) (hl : ls.length ≤ 9000) (hq : ∀ l ∈ ls,okK l) (c1 c2 c4 c5 c6 c7 c8 c9 : Int) (p : Ob) (L : List Lk) (hd : dlvN ls a 1 = (⟨c1,c2,2,c4,c5,p,c6,c7,c8,c9⟩,L,0)) (k1 : a2.length ≤ 9000) (l1 : List Tok) (hc : grt ⟨1,a2,k1⟩ ⟨c1,c2,2,c4,c5,p,c6,c7,c8,c9⟩ = (1,l1,0)) : W Try.prog (RetB Try.prog Try.f13 1 (.bool true) [grB 0 (⟨a1,l1,a3,es,L,v0,v1⟩ : Grd)]) (codeOf Try.f13) [] ⟨141,[(0, .ptr 0 0 0 0),(1, .int .i64 a),(2, .int .i64 1)],[(0,grB 0 ⟨a1,a2,a3,es,ls,v0,v1⟩)]⟩ := by
 have cd:=dlvS_eq ⟨ls,hl,hq⟩ a 1
 rw [show dlvN (⟨ls,hl,hq⟩ : Nts).ls a 1 = _ from hd] at cd
 simp only [Nts.v,rDl,Msg.v] at cd
 have ca:=grtS_eq ⟨1,a2,k1⟩ ⟨c1,c2,2,c4,c5,p,c6,c7,c8,c9⟩
 rw [hc] at ca
 simp only [Tks.v,rT,Msg.v] at ca
 clear hc hd
 repeat' (first | intro (hb : _ = _) | refine ZV ?_ | refine ZB tm gdl_specs_ok ?_ | refine ZH ?_ ?_ | refine ZJ (by conv=>lhs; simp [cd,ca,m1,grB,Grd.row]) ?_ | refine ZA ?_ ?_)
 refine RetB.raw [0] rfl (by conv=>lhs; simp) (by decide) (by rintro j hj; have hj : j < 1:=hj; rcases (show j = 0 by omega) with rfl; exact ⟨rfl,by simp [lk_st,grB]⟩) (by simp [lk_st,grB,Grd.row,renL,AV.ren]) (by simp)
theorem gdl_v1 (a1 a2 a3 : List Tok) (es : List En) (ls : List Lk) (v0 v1 a : Int) (hl : ls.length ≤ 9000) (hq : ∀ l ∈ ls,okK l) (c1 c2 c4 c5 c6 c7 c8 c9 : Int) (p : Ob) (L : List Lk) (hd : dlvN ls a 1 = (⟨c1,c2,3,c4,c5,p,c6,c7,c8,c9⟩,L,0)) (k1 : a2.length ≤ 9000) (l1 : List Tok) (ms : List Msg) (hc : rvk ⟨1,a2,k1⟩ ⟨c1,c2,3,c4,c5,p,c6,c7,c8,c9⟩ = (1,l1,ms,0)) (hm : ms.length ≤ 9000) (hs : SendOK L ms) : W Try.prog (RetB Try.prog Try.f13 1 (.bool true) [grB 0 (⟨a1,l1,a3,es,sendF L ms,v0,v1⟩ : Grd)]) (codeOf Try.f13) [] ⟨141,[(0, .ptr 0 0 0 0),(1, .int .i64 a),(2, .int .i64 1)],[(0,grB 0 ⟨a1,a2,a3,es,ls,v0,v1⟩)]⟩ := by
 have cd:=dlvS_eq ⟨ls,hl,hq⟩ a 1
 rw [show dlvN (⟨ls,hl,hq⟩ : Nts).ls a 1 = _ from hd] at cd
 simp only [Nts.v,rDl,Msg.v] at cd
 have ca:=rvkS_eq ⟨1,a2,k1⟩ ⟨c1,c2,3,c4,c5,p,c6,c7,c8,c9⟩
 have cs:=gsnS_eq ⟨a1,l1,a3,es,L,v0,v1⟩ ms hm hs
 rw [hc] at ca
 simp only [Tks.v,rU,Msg.v] at ca
 have hG : (⟨a1,l1,a3,es,L,v0,v1⟩ : Grd).sent ms = ⟨a1,l1,a3,es,sendF L ms,v0,v1⟩:=rfl
 rw [hG] at cs
 generalize sendF L ms = L2 at *
 simp only [grB,Grd.row] at cs
 clear hc hs hd hG
 repeat' (first | intro (hb : _ = _) | refine ZV ?_ | refine ZB tm gdl_specs_ok ?_ | refine ZH ?_ ?_ | refine ZJ (by conv=>lhs; simp [cd,ca,cs,m1,grB,Grd.row]) ?_ | refine ZA ?_ ?_)
 refine RetB.raw [0] rfl (by conv=>lhs; simp) (by decide) (by rintro j hj; have hj : j < 1:=hj; rcases (show j = 0 by omega) with rfl; exact ⟨rfl,by simp [lk_st,grB]⟩) (by simp [lk_st,grB,Grd.row,renL,AV.ren]) (by simp)
theorem gdl_g2 (a1 a2 a3 : List Tok) (es : List En) (ls : List Lk) (v0 v1 a : Int) (hl : ls.length ≤ 9000) (hq : ∀ l ∈ ls,okK l) (c1 c2 c4 c5 c6 c7 c8 c9 : Int) (p : Ob) (L : List Lk) (hd : dlvN ls a 2 = (⟨c1,c2,2,c4,c5,p,c6,c7,c8,c9⟩,L,0)) (k1 : a3.length ≤ 9000) (l1 : List Tok) (hc : grt ⟨2,a3,k1⟩ ⟨c1,c2,2,c4,c5,p,c6,c7,c8,c9⟩ = (2,l1,0)) : W Try.prog (RetB Try.prog Try.f13 1 (.bool true) [grB 0 (⟨a1,a2,l1,es,L,v0,v1⟩ : Grd)]) (codeOf Try.f13) [] ⟨141,[(0, .ptr 0 0 0 0),(1, .int .i64 a),(2, .int .i64 2)],[(0,grB 0 ⟨a1,a2,a3,es,ls,v0,v1⟩)]⟩ := by
 have cd:=dlvS_eq ⟨ls,hl,hq⟩ a 2
 rw [show dlvN (⟨ls,hl,hq⟩ : Nts).ls a 2 = _ from hd] at cd
 simp only [Nts.v,rDl,Msg.v] at cd
 have ca:=grtS_eq ⟨2,a3,k1⟩ ⟨c1,c2,2,c4,c5,p,c6,c7,c8,c9⟩
 rw [hc] at ca
 simp only [Tks.v,rT,Msg.v] at ca
 clear hc hd
 repeat' (first | intro (hb : _ = _) | refine ZV ?_ | refine ZB tm gdl_specs_ok ?_ | refine ZH ?_ ?_ | refine ZJ (by conv=>lhs; simp [cd,ca,m1,grB,Grd.row]) ?_ | refine ZA ?_ ?_)
 refine RetB.raw [0] rfl (by conv=>lhs; simp) (by decide) (by rintro j hj; have hj : j < 1:=hj; rcases (show j = 0 by omega) with rfl; exact ⟨rfl,by simp [lk_st,grB]⟩) (by simp [lk_st,grB,Grd.row,renL,AV.ren]) (by simp)
theorem gdl_v2 (a1 a2 a3 : List Tok) (es : List En) (ls : List Lk) (v0 v1 a : Int) (hl : ls.length ≤ 9000) (hq : ∀ l ∈ ls,okK l) (c1 c2 c4 c5 c6 c7 c8 c9 : Int) (p : Ob) (L : List Lk) (hd : dlvN ls a 2 = (⟨c1,c2,3,c4,c5,p,c6,c7,c8,c9⟩,L,0)) (k1 : a3.length ≤ 9000) (l1 : List Tok) (ms : List Msg) (hc : rvk ⟨2,a3,k1⟩ ⟨c1,c2,3,c4,c5,p,c6,c7,c8,c9⟩ = (2,l1,ms,0)) (hm : ms.length ≤ 9000) (hs : SendOK L ms) : W Try.prog (RetB Try.prog Try.f13 1 (.bool true) [grB 0 (⟨a1,a2,l1,es,sendF L ms,v0,v1⟩ : Grd)]) (codeOf Try.f13) [] ⟨141,[(0, .ptr 0 0 0 0),(1, .int .i64 a),(2, .int .i64 2)],[(0,grB 0 ⟨a1,a2,a3,es,ls,v0,v1⟩)]⟩ := by
 have cd:=dlvS_eq ⟨ls,hl,hq⟩ a 2
 rw [show dlvN (⟨ls,hl,hq⟩ : Nts).ls a 2 = _ from hd] at cd
 simp only [Nts.v,rDl,Msg.v] at cd
 have ca:=rvkS_eq ⟨2,a3,k1⟩ ⟨c1,c2,3,c4,c5,p,c6,c7,c8,c9⟩
 have cs:=gsnS_eq ⟨a1,a2,l1,es,L,v0,v1⟩ ms hm hs
 rw [hc] at ca
 simp only [Tks.v,rU,Msg.v] at ca
 have hG : (⟨a1,a2,l1,es,L,v0,v1⟩ : Grd).sent ms = ⟨a1,a2,l1,es,sendF L ms,v0,v1⟩:=rfl
 rw [hG] at cs
 generalize sendF L ms = L2 at *
 simp only [grB,Grd.row] at cs
 clear hc hs hd hG
 repeat' (first | intro (hb : _ = _) | refine ZV ?_ | refine ZB tm gdl_specs_ok ?_ | refine ZH ?_ ?_ | refine ZJ (by conv=>lhs; simp [cd,ca,cs,m1,grB,Grd.row]) ?_ | refine ZA ?_ ?_)
 refine RetB.raw [0] rfl (by conv=>lhs; simp) (by decide) (by rintro j hj; have hj : j < 1:=hj; rcases (show j = 0 by omega) with rfl; exact ⟨rfl,by simp [lk_st,grB]⟩) (by simp [lk_st,grB,Grd.row,renL,AV.ren]) (by simp)
theorem gdl_ok : FnC Try.prog 13 gdlS := by
 refine FnC.walkB 13 (fn:=Try.f13) Try.func13 rfl (by kernel_rfl) (fun x b hb=>by simp at hb; rw [hb]; rfl) fun x=>?_
 obtain ⟨⟨⟨⟨a1,a2,a3,es,ls,v0,v1⟩,a,b⟩,g'⟩,hb,hl,hq,m,L,e,hd,h⟩:=x
 dsimp only at hb hl hq hd h
 rcases h with ⟨k,rfl⟩ | ⟨k,h⟩
 · exact gdl_e a1 a2 a3 es ls v0 v1 a b hl hq m L e hd k
 obtain ⟨c1,c2,c3,c4,c5,p,c6,c7,c8,c9⟩:=m
 subst k
 rcases h with ⟨k1,q1,q2,es',ms,h1,hm,hs,rfl⟩ | ⟨k1,q1,q2,es',ms,h1,hm,hs,rfl⟩ | ⟨k1,q1,l,h1,rfl⟩ | ⟨k1,q1,l,ms,h1,hm,hs,rfl⟩ <;> (dsimp only at k1; subst k1)
 · exact gdl_a a1 a2 a3 es ls v0 v1 a b hl hq c1 c2 c4 c5 c6 c7 c8 c9 p L hd q1 q2 es' ms h1 hm hs
 · exact gdl_r a1 a2 a3 es ls v0 v1 a b hl hq c1 c2 c4 c5 c6 c7 c8 c9 p L hd q1 q2 es' ms h1 hm hs
 · rcases hb with rfl | rfl | rfl
   · exact gdl_g0 a1 a2 a3 es ls v0 v1 a hl hq c1 c2 c4 c5 c6 c7 c8 c9 p L hd q1 l h1
   · exact gdl_g1 a1 a2 a3 es ls v0 v1 a hl hq c1 c2 c4 c5 c6 c7 c8 c9 p L hd q1 l h1
   · exact gdl_g2 a1 a2 a3 es ls v0 v1 a hl hq c1 c2 c4 c5 c6 c7 c8 c9 p L hd q1 l h1
 · rcases hb with rfl | rfl | rfl
   · exact gdl_v0 a1 a2 a3 es ls v0 v1 a hl hq c1 c2 c4 c5 c6 c7 c8 c9 p L hd q1 l ms h1 hm hs
   · exact gdl_v1 a1 a2 a3 es ls v0 v1 a hl hq c1 c2 c4 c5 c6 c7 c8 c9 p L hd q1 l ms h1 hm hs
   · exact gdl_v2 a1 a2 a3 es ls v0 v1 a hl hq c1 c2 c4 c5 c6 c7 c8 c9 p L hd q1 l ms h1 hm hs
end
section
attribute [local simp] instA slice3A slice3C
attribute [-simp] mkv
attribute [local simp] mkv_hd hdA_cons hdA_ob hdA_ob'
def idG (k : Int) : Int := 72057594037927937 + k
def N2 (k : Int) : Prop := k = 0 ∨ k = 1
noncomputable def obS : SpecFn := mkS (fun k : {k : Int // N2 k} => [.int .i64 k.1]) fun k => (.int .u64 (idG k.1),[])
theorem obS_eq {k : Int} (h : N2 k) : obS [.int .i64 k] [] = some (.int .u64 (idG k),[]) :=
 mkS_eq (enc:=fun k : {k : Int // N2 k}=>[AV.int .i64 k.1]) (res:=fun k=>(.int .u64 (idG k.1),[])) (fun x y h=>by
   simp only [List.cons.injEq,AV.int.injEq,true_and,and_true] at h
   rw [Subtype.ext h]) ⟨k,h⟩
theorem ob_ok : FnC Try.prog 6 obS := by
 refine FnC.walk 6 (fn:=Try.f6) Try.func6 rfl (by kernel_rfl) fun k=>?_
 obtain ⟨k,hk⟩:=k
 rcases hk with rfl | rfl
 · change W _ (Ret _ _ (.int .u64 72057594037927937) []) _ _ ⟨7,[(0, .int .i64 0)],[]⟩
   have e1 : IntKind.u64.wrap (IntKind.i64.wrap (1 + 0)) = 1:=by decide
   have e2 : IntKind.u64.wrap ↑((72057594037927936 % 2 ^ IntKind.u64.bits : Int).toNat ||| ((1 : Int) % 2 ^ IntKind.u64.bits).toNat) = 72057594037927937:=by decide
   repeat' (first | intro (hb : _ = _) | refine ZV ?_ | refine ZB tm no_specs ?_ | refine ZH ?_ ?_ | refine ZJ (by conv=>lhs; simp [e1,e2]) ?_ | refine ZA ?_ ?_)
   all_goals (first | refine Yd ?_ | refine Ye ?_)
   all_goals (first | rfl | (simp; done) | (simp_all; done) | (simp_all; omega))
 · change W _ (Ret _ _ (.int .u64 72057594037927938) []) _ _ ⟨7,[(0, .int .i64 1)],[]⟩
   have e1 : IntKind.u64.wrap (IntKind.i64.wrap (1 + 1)) = 2:=by decide
   repeat' (first | intro (hb : _ = _) | refine ZV ?_ | refine ZB tm no_specs ?_ | refine ZH ?_ ?_ | refine ZJ (by conv=>lhs; simp [e1]) ?_ | refine ZA ?_ ?_)
   all_goals (first | refine Yd ?_ | refine Ye ?_)
   all_goals (first | rfl | (simp; done) | (simp_all; done) | (simp_all; omega))
def Grd.to (g : Grd) (n k : Int) : Tok := (fnd (idG k) (g.tk n)).getD (tok0 (idG k))
def Grd.val (g : Grd) (k : Int) : Int := if k = 0 then g.v0 else g.v1
def IsDv (o : Ob) (id n : Int) : Prop := ∃ h1 h2,o = dvO id n h1 h2
def GoodT (g : Grd) (n k : Int) : Prop := (g.to n k).mode = 0 ∨ (((g.to n k).mode = 1 ∨ (g.to n k).mode = 2) ∧ IsDv (g.to n k).obj (idG k) (g.val k))
def wri (t : Tok) : Nat := if t.mode = 2 then 1 else 0
def hol (t : Tok) : Nat := if t.mode = 0 then 0 else 1
def cW (g : Grd) (k : Int) : Nat → Nat
 | 0=>0
 | n + 1=>cW g k n + wri (g.to (n : Int) k)
def cH (g : Grd) (k : Int) : Nat → Nat
 | 0=>0
 | n + 1=>cH g k n + hol (g.to (n : Int) k)
structure GoodG (g : Grd) : Prop where
 len : ∀ n,N3 n → (g.tk n).length ≤ 9000
 one : ∀ n k,N3 n → N2 k → GoodT g n k
 all : ∀ k,N2 k → cW g k 3 ≤ 1 ∧ (cW g k 3 = 1 → cH g k 3 ≤ 1)
noncomputable def ggdS : SpecFn := mkS2 (fun x : {g : Grd // GoodG g} => ([.ptr 0 0 0 0],[grB 0 x.1])) fun x => (.bool true,[grB 0 x.1])
theorem ggdS_eq {g : Grd} (h : GoodG g) : ggdS [.ptr 0 0 0 0] [grB 0 g] = some (.bool true,[grB 0 g]) :=
 mkS2_eq (enc:=fun x : {g : Grd // GoodG g}=>([AV.ptr 0 0 0 0],[grB 0 x.1])) (res:=fun x=>(.bool true,[grB 0 x.1])) (fun x y h=>by
   simp only [Prod.mk.injEq,List.cons.injEq,true_and,and_true] at h
   rw [Subtype.ext (grB_inj h)]) ⟨g,h⟩
noncomputable def ggd_specs : NL Spec := [(6,⟨1,obS⟩),(11,⟨1,hoS⟩),(37,⟨1,getS⟩)]
theorem ggd_specs_ok : ∀ p ∈ ggd_specs,FnC Try.prog p.1 p.2.fn := by
 simp only [ggd_specs,List.mem_cons,List.not_mem_nil,or_false]
 rintro p (rfl | rfl | rfl)
 · exact ob_ok
 · exact ho_ok
 · exact get_ok
attribute [local simp] ggd_specs
theorem wri_le (t : Tok) : wri t ≤ 1 := by unfold wri; split <;> omega
theorem hol_le (t : Tok) : hol t ≤ 1 := by unfold hol; split <;> omega
theorem cW_le (g : Grd) (k : Int) : ∀ n,cW g k n ≤ n
 | 0=>Nat.le_refl _
 | n + 1=>by have:=cW_le g k n; have:=wri_le (g.to (n : Int) k); simp only [cW]; omega
theorem cH_le (g : Grd) (k : Int) : ∀ n,cH g k n ≤ n
 | 0=>Nat.le_refl _
 | n + 1=>by have:=cH_le g k n; have:=hol_le (g.to (n : Int) k); simp only [cH]; omega
theorem ho_1 {n : Int} {l : List Tok} (hl : l.length ≤ 9000) (id : Int) {m : Int} (hm : m = 1 ∨ m = 2) : hoS [.agg [.int .i64 n, .list 41 (l.map Tok.c)], .int .u64 id, .int .i64 m] [] = some (.bool (decide (m ≤ ((fnd id l).getD (tok0 id)).mode)),[]) := by
 have:=hoS_eq ⟨n,l,hl⟩ id m
 rw [show okM m = true by rcases hm with rfl | rfl <;> rfl,Bool.true_and] at this
 exact this
theorem get_1 {n : Int} {l : List Tok} (hl : l.length ≤ 9000) {id v : Int} (hm : ((fnd id l).getD (tok0 id)).mode = 1 ∨ ((fnd id l).getD (tok0 id)).mode = 2) (ho : IsDv ((fnd id l).getD (tok0 id)).obj id v) : getS [.agg [.int .i64 n, .list 41 (l.map Tok.c)], .int .u64 id] [] = some (.tup [.agg (dvN id v), .int .i64 0],[]) := by
 have:=getS_eq ⟨n,l,hl⟩ id
 obtain ⟨h1,h2,ho⟩:=ho
 rw [getL,if_pos (by rcases hm with hm | hm <;> (dsimp only; rw [hm]; rfl))] at this
 dsimp only at this
 rw [ho] at this
 exact this
theorem ggd_ok : FnC Try.prog 14 ggdS := by
 refine FnC.walkB 14 (fn:=Try.f14) Try.func14 rfl (by kernel_rfl) (fun x b hb=>by simp at hb; rw [hb]; rfl) fun x=>?_
 obtain ⟨g,hg⟩:=x
 change W _ (RetB _ _ 1 (.bool true) [grB 0 g]) _ _ ⟨82,[(0, .ptr 0 0 0 0)],[(0,grB 0 g)]⟩
 repeat' (first | intro (hb : _ = _) | refine ZV ?_ | refine ZB tm ggd_specs_ok ?_ | refine ZH ?_ ?_ | refine ZJ (by conv=>lhs; simp) ?_ | refine ZA ?_ ?_)
 refine W.loop rfl (ι:={ p : Nat × NL ABlk // p.1 ≤ 2 ∧ lk p.2 0 = some (grB 0 g) })
   (fun p=>⟨82,[(0, .ptr 0 0 0 0),(9, .int .i64 (p.1.1 : Nat))],p.1.2⟩) (fun p=>2 - p.1.1)
   ⟨(0,_),by simp,rfl⟩ (AS.le_of rfl ⟨rfl,rfl,trivial⟩ (fun _=>rfl)) ?_
 rintro ⟨⟨k,h⟩,hk,h0⟩
 dsimp only at hk h0 ⊢
 rcases (show k = 2 ∨ k = 0 ∨ k = 1 by omega) with rfl | hk
 · repeat' (first | intro (hb : _ = _) | refine ZV ?_ | refine ZB tm ggd_specs_ok ?_ | refine ZH ?_ ?_ | refine ZJ (by conv=>lhs; simp [h0]) ?_ | refine ZA ?_ ?_)
   refine RetB.raw [0] rfl (by conv=>lhs; simp) (by decide) (by rintro j hj; have hj : j < 1:=hj; rcases (show j = 0 by omega) with rfl; exact ⟨rfl,by simp [h0,grB]⟩) (by simp [h0,grB,Grd.row,renL,AV.ren]) (by simp)
 have hk2 : N2 (k : Int):=by unfold N2; omega
 have q0 : (k : Int) < 2:=by omega
 repeat' (first | intro (hb : _ = _) | refine ZV ?_ | refine ZB tm ggd_specs_ok ?_ | refine ZH ?_ ?_ | refine ZJ (by conv=>lhs; simp [q0,h0]) ?_ | refine ZA ?_ ?_)
 refine W.loop rfl (ι:={ q : Nat × NL ABlk × Nat × Nat // q.1 ≤ 3 ∧ lk q.2.1 0 = some (grB 0 g) ∧ q.2.2.1 = cW g k q.1 ∧ q.2.2.2 = cH g k q.1 })
   (fun q=>⟨82,[(0, .ptr 0 0 0 0),(3, .int .i64 k),(4, .int .i64 (q.1.2.2.1 : Nat)),(5, .int .i64 (q.1.2.2.2 : Nat)),(9, .int .i64 k),(12, .int .i64 (q.1.1 : Nat))],q.1.2.1⟩) (fun q=>3 - q.1.1)
   ⟨(0,_,0,0),by simp,h0,rfl,rfl⟩ (AS.le_of rfl ⟨rfl,rfl,rfl,rfl,rfl,rfl,trivial⟩ (fun _=>rfl)) ?_
 clear h0
 rintro ⟨⟨n,h',w,c⟩,hn,h0,hw,hc⟩
 dsimp only at hn h0 hw hc ⊢
 have w1:=cW_le g k n
 have c1:=cH_le g k n
 rcases (show n = 3 ∨ n = 0 ∨ n = 1 ∨ n = 2 by omega) with rfl | hn
 · obtain ⟨a1,a2⟩:=hg.all k hk2
   rw [← hw] at a1 a2
   rw [← hc] at a2
   have q1 : ¬ (1 : Int) < w:=by omega
   have qk : IntKind.i64.wrap ((k : Int) + 1) = ((k + 1 : Nat) : Int):=w64 (by omega) (by omega)
   by_cases hw1 : w = 1
   · have q2 : ((w : Int) == 1) = true:=by simp [hw1]
     have q3 : ¬ (1 : Int) < c:=by have:=a2 hw1; omega
     clear hw a1 a2 hw1
     repeat' (first | intro (hb : _ = _) | refine ZV ?_ | refine ZB tm ggd_specs_ok ?_ | refine ZH ?_ ?_ | refine ZJ (by conv=>lhs; simp [q1,q2,q3,h0,qk]) ?_ | refine ZA ?_ ?_)
     exact ⟨⟨(k + 1,_),by dsimp only; omega,h0⟩,by dsimp only; omega,AS.le_of rfl ⟨rfl,rfl,trivial⟩ (fun _=>rfl)⟩
   · have q2 : ((w : Int) == 1) = false:=by simp; omega
     clear hw a1 a2 hw1
     repeat' (first | intro (hb : _ = _) | refine ZV ?_ | refine ZB tm ggd_specs_ok ?_ | refine ZH ?_ ?_ | refine ZJ (by conv=>lhs; simp [q1,q2,h0,qk]) ?_ | refine ZA ?_ ?_)
     exact ⟨⟨(k + 1,_),by dsimp only; omega,h0⟩,by dsimp only; omega,AS.le_of rfl ⟨rfl,rfl,trivial⟩ (fun _=>rfl)⟩
 have hn3 : N3 (n : Int):=by unfold N3; omega
 have cl:=hg.len n hn3
 have co:=hg.one n k hn3 hk2
 have ob:=obS_eq hk2
 have r1:=ho_1 (n:=n) cl (idG k) (.inl rfl)
 have r2:=ho_1 (n:=n) cl (idG k) (.inr rfl)
 have r3:=fun hm ho=>get_1 (n:=n) (v:=g.val k) cl (id:=idG k) hm ho
 rw [show (fnd (idG k) (g.tk n)).getD (tok0 (idG k)) = g.to n k from rfl] at r1 r2 r3
 have sw : cW g k (n + 1) = w + wri (g.to n k):=by rw [hw]; rfl
 have sh : cH g k (n + 1) = c + hol (g.to n k):=by rw [hc]; rfl
 unfold GoodT at co
 generalize g.to n k = t at *
 have qn : IntKind.i64.wrap ((n : Int) + 1) = ((n + 1 : Nat) : Int):=w64 (by omega) (by omega)
 have qw : IntKind.i64.wrap ((w : Int) + 1) = ((w + 1 : Nat) : Int):=w64 (by omega) (by omega)
 have qc : IntKind.i64.wrap ((c : Int) + 1) = ((c + 1 : Nat) : Int):=w64 (by omega) (by omega)
 have q1 : (n : Int) < 3:=by omega
 obtain ⟨a1,a2,a3,es,ls,v0,v1⟩:=g
 clear hg hk w1 c1 cl hw hc
 simp only [grB,Grd.row] at h0
 rcases hn with rfl | hn
 · change hoS [.agg [.int .i64 0, .list 41 (a1.map Tok.c)],_,_] _ = _ at r1
   change hoS [.agg [.int .i64 0, .list 41 (a1.map Tok.c)],_,_] _ = _ at r2
   change ∀ hm ho,getS [.agg [.int .i64 0, .list 41 (a1.map Tok.c)],_] _ = _ at r3
   rcases co with m0 | ⟨m0 | m0,ho⟩
   · have e1 : decide (1 ≤ t.mode) = false:=by rw [m0]; decide
     rw [e1] at r1
     repeat' (first | intro (hb : _ = _) | refine ZV ?_ | refine ZB tm ggd_specs_ok ?_ | refine ZH ?_ ?_ | refine ZJ (by conv=>lhs; simp [h0,q1,qn,ob,r1]) ?_ | refine ZA ?_ ?_)
     exact ⟨⟨(0 + 1,_,w,c),by dsimp only; omega,h0,by rw [sw,wri,if_neg (by omega)]; rfl,by rw [sh,hol,if_pos m0]; rfl⟩,by dsimp only; omega,AS.le_of rfl ⟨rfl,rfl,rfl,rfl,rfl,rfl,trivial⟩ (fun _=>rfl)⟩
   · have r3:=r3 (.inl m0) ho
     have e1 : decide (1 ≤ t.mode) = true:=by rw [m0]; decide
     have e2 : decide (2 ≤ t.mode) = false:=by rw [m0]; decide
     rw [e1] at r1
     rw [e2] at r2
     rcases hk2 with hk0 | hk0 <;> (obtain rfl : k = _:=Int.ofNat_inj.1 hk0)
     · change obS [.int .i64 0] [] = some (.int .u64 72057594037927937,[]) at ob
       change hoS [.agg [.int .i64 0, .list 41 (a1.map Tok.c)], .int .u64 72057594037927937,_] [] = _ at r1
       change hoS [.agg [.int .i64 0, .list 41 (a1.map Tok.c)], .int .u64 72057594037927937,_] [] = _ at r2
       change getS [.agg [.int .i64 0, .list 41 (a1.map Tok.c)], .int .u64 72057594037927937] _ = some (.tup [.agg (dvN 72057594037927937 v0),_],_) at r3
       simp only [dvN] at r3
       repeat' (first | intro (hb : _ = _) | refine ZV ?_ | refine ZB tm ggd_specs_ok ?_ | refine ZH ?_ ?_ | refine ZJ (by conv=>lhs; simp [h0,q1,qn,ob,r1,r2,r3,qc,m1]) ?_ | refine ZA ?_ ?_)
       exact ⟨⟨(0 + 1,_,w,c + 1),by dsimp only; omega,by simp [lk_st,h0,grB,Grd.row],by rw [sw,wri,if_neg (by omega)]; rfl,by rw [sh,hol,if_neg (by omega)]⟩,by dsimp only; omega,AS.le_of rfl ⟨rfl,rfl,rfl,rfl,rfl,rfl,trivial⟩ (fun _=>rfl)⟩
     · change obS [.int .i64 1] [] = some (.int .u64 72057594037927938,[]) at ob
       change hoS [.agg [.int .i64 0, .list 41 (a1.map Tok.c)], .int .u64 72057594037927938,_] [] = _ at r1
       change hoS [.agg [.int .i64 0, .list 41 (a1.map Tok.c)], .int .u64 72057594037927938,_] [] = _ at r2
       change getS [.agg [.int .i64 0, .list 41 (a1.map Tok.c)], .int .u64 72057594037927938] _ = some (.tup [.agg (dvN 72057594037927938 v1),_],_) at r3
       simp only [dvN] at r3
       repeat' (first | intro (hb : _ = _) | refine ZV ?_ | refine ZB tm ggd_specs_ok ?_ | refine ZH ?_ ?_ | refine ZJ (by conv=>lhs; simp [h0,q1,qn,ob,r1,r2,r3,qc,m1]) ?_ | refine ZA ?_ ?_)
       exact ⟨⟨(0 + 1,_,w,c + 1),by dsimp only; omega,by simp [lk_st,h0,grB,Grd.row],by rw [sw,wri,if_neg (by omega)]; rfl,by rw [sh,hol,if_neg (by omega)]⟩,by dsimp only; omega,AS.le_of rfl ⟨rfl,rfl,rfl,rfl,rfl,rfl,trivial⟩ (fun _=>rfl)⟩
   · have r3:=r3 (.inr m0) ho
     have e1 : decide (1 ≤ t.mode) = true:=by rw [m0]; decide
     have e2 : decide (2 ≤ t.mode) = true:=by rw [m0]; decide
     rw [e1] at r1
     rw [e2] at r2
     rcases hk2 with hk0 | hk0 <;> (obtain rfl : k = _:=Int.ofNat_inj.1 hk0)
     · change obS [.int .i64 0] [] = some (.int .u64 72057594037927937,[]) at ob
       change hoS [.agg [.int .i64 0, .list 41 (a1.map Tok.c)], .int .u64 72057594037927937,_] [] = _ at r1
       change hoS [.agg [.int .i64 0, .list 41 (a1.map Tok.c)], .int .u64 72057594037927937,_] [] = _ at r2
       change getS [.agg [.int .i64 0, .list 41 (a1.map Tok.c)], .int .u64 72057594037927937] _ = some (.tup [.agg (dvN 72057594037927937 v0),_],_) at r3
       simp only [dvN] at r3
       repeat' (first | intro (hb : _ = _) | refine ZV ?_ | refine ZB tm ggd_specs_ok ?_ | refine ZH ?_ ?_ | refine ZJ (by conv=>lhs; simp [h0,q1,qn,ob,r1,r2,r3,qc,qw,m1]) ?_ | refine ZA ?_ ?_)
       exact ⟨⟨(0 + 1,_,w + 1,c + 1),by dsimp only; omega,by simp [lk_st,h0,grB,Grd.row],by rw [sw,wri,if_pos m0],by rw [sh,hol,if_neg (by omega)]⟩,by dsimp only; omega,AS.le_of rfl ⟨rfl,rfl,rfl,rfl,rfl,rfl,trivial⟩ (fun _=>rfl)⟩
     · change obS [.int .i64 1] [] = some (.int .u64 72057594037927938,[]) at ob
       change hoS [.agg [.int .i64 0, .list 41 (a1.map Tok.c)], .int .u64 72057594037927938,_] [] = _ at r1
       change hoS [.agg [.int .i64 0, .list 41 (a1.map Tok.c)], .int .u64 72057594037927938,_] [] = _ at r2
       change getS [.agg [.int .i64 0, .list 41 (a1.map Tok.c)], .int .u64 72057594037927938] _ = some (.tup [.agg (dvN 72057594037927938 v1),_],_) at r3
       simp only [dvN] at r3
       repeat' (first | intro (hb : _ = _) | refine ZV ?_ | refine ZB tm ggd_specs_ok ?_ | refine ZH ?_ ?_ | refine ZJ (by conv=>lhs; simp [h0,q1,qn,ob,r1,r2,r3,qc,qw,m1]) ?_ | refine ZA ?_ ?_)
       exact ⟨⟨(0 + 1,_,w + 1,c + 1),by dsimp only; omega,by simp [lk_st,h0,grB,Grd.row],by rw [sw,wri,if_pos m0],by rw [sh,hol,if_neg (by omega)]⟩,by dsimp only; omega,AS.le_of rfl ⟨rfl,rfl,rfl,rfl,rfl,rfl,trivial⟩ (fun _=>rfl)⟩
 rcases hn with rfl | hn
 · change hoS [.agg [.int .i64 1, .list 41 (a2.map Tok.c)],_,_] _ = _ at r1
   change hoS [.agg [.int .i64 1, .list 41 (a2.map Tok.c)],_,_] _ = _ at r2
   change ∀ hm ho,getS [.agg [.int .i64 1, .list 41 (a2.map Tok.c)],_] _ = _ at r3
   rcases co with m0 | ⟨m0 | m0,ho⟩
   · have e1 : decide (1 ≤ t.mode) = false:=by rw [m0]; decide
     rw [e1] at r1
     repeat' (first | intro (hb : _ = _) | refine ZV ?_ | refine ZB tm ggd_specs_ok ?_ | refine ZH ?_ ?_ | refine ZJ (by conv=>lhs; simp [h0,q1,qn,ob,r1]) ?_ | refine ZA ?_ ?_)
     exact ⟨⟨(1 + 1,_,w,c),by dsimp only; omega,h0,by rw [sw,wri,if_neg (by omega)]; rfl,by rw [sh,hol,if_pos m0]; rfl⟩,by dsimp only; omega,AS.le_of rfl ⟨rfl,rfl,rfl,rfl,rfl,rfl,trivial⟩ (fun _=>rfl)⟩
   · have r3:=r3 (.inl m0) ho
     have e1 : decide (1 ≤ t.mode) = true:=by rw [m0]; decide
     have e2 : decide (2 ≤ t.mode) = false:=by rw [m0]; decide
     rw [e1] at r1
     rw [e2] at r2
     rcases hk2 with hk0 | hk0 <;> (obtain rfl : k = _:=Int.ofNat_inj.1 hk0)
     · change obS [.int .i64 0] [] = some (.int .u64 72057594037927937,[]) at ob
       change hoS [.agg [.int .i64 1, .list 41 (a2.map Tok.c)], .int .u64 72057594037927937,_] [] = _ at r1
       change hoS [.agg [.int .i64 1, .list 41 (a2.map Tok.c)], .int .u64 72057594037927937,_] [] = _ at r2
       change getS [.agg [.int .i64 1, .list 41 (a2.map Tok.c)], .int .u64 72057594037927937] _ = some (.tup [.agg (dvN 72057594037927937 v0),_],_) at r3
       simp only [dvN] at r3
       repeat' (first | intro (hb : _ = _) | refine ZV ?_ | refine ZB tm ggd_specs_ok ?_ | refine ZH ?_ ?_ | refine ZJ (by conv=>lhs; simp [h0,q1,qn,ob,r1,r2,r3,qc,m1]) ?_ | refine ZA ?_ ?_)
       exact ⟨⟨(1 + 1,_,w,c + 1),by dsimp only; omega,by simp [lk_st,h0,grB,Grd.row],by rw [sw,wri,if_neg (by omega)]; rfl,by rw [sh,hol,if_neg (by omega)]⟩,by dsimp only; omega,AS.le_of rfl ⟨rfl,rfl,rfl,rfl,rfl,rfl,trivial⟩ (fun _=>rfl)⟩
     · change obS [.int .i64 1] [] = some (.int .u64 72057594037927938,[]) at ob
       change hoS [.agg [.int .i64 1, .list 41 (a2.map Tok.c)], .int .u64 72057594037927938,_] [] = _ at r1
       change hoS [.agg [.int .i64 1, .list 41 (a2.map Tok.c)], .int .u64 72057594037927938,_] [] = _ at r2
       change getS [.agg [.int .i64 1, .list 41 (a2.map Tok.c)], .int .u64 72057594037927938] _ = some (.tup [.agg (dvN 72057594037927938 v1),_],_) at r3
       simp only [dvN] at r3
       repeat' (first | intro (hb : _ = _) | refine ZV ?_ | refine ZB tm ggd_specs_ok ?_ | refine ZH ?_ ?_ | refine ZJ (by conv=>lhs; simp [h0,q1,qn,ob,r1,r2,r3,qc,m1]) ?_ | refine ZA ?_ ?_)
       exact ⟨⟨(1 + 1,_,w,c + 1),by dsimp only; omega,by simp [lk_st,h0,grB,Grd.row],by rw [sw,wri,if_neg (by omega)]; rfl,by rw [sh,hol,if_neg (by omega)]⟩,by dsimp only; omega,AS.le_of rfl ⟨rfl,rfl,rfl,rfl,rfl,rfl,trivial⟩ (fun _=>rfl)⟩
   · have r3:=r3 (.inr m0) ho
     have e1 : decide (1 ≤ t.mode) = true:=by rw [m0]; decide
     have e2 : decide (2 ≤ t.mode) = true:=by rw [m0]; decide
     rw [e1] at r1
     rw [e2] at r2
     rcases hk2 with hk0 | hk0 <;> (obtain rfl : k = _:=Int.ofNat_inj.1 hk0)
     · change obS [.int .i64 0] [] = some (.int .u64 72057594037927937,[]) at ob
       change hoS [.agg [.int .i64 1, .list 41 (a2.map Tok.c)], .int .u64 72057594037927937,_] [] = _ at r1
       change hoS [.agg [.int .i64 1, .list 41 (a2.map Tok.c)], .int .u64 72057594037927937,_] [] = _ at r2
       change getS [.agg [.int .i64 1, .list 41 (a2.map Tok.c)], .int .u64 72057594037927937] _ = some (.tup [.agg (dvN 72057594037927937 v0),_],_) at r3
       simp only [dvN] at r3
       repeat' (first | intro (hb : _ = _) | refine ZV ?_ | refine ZB tm ggd_specs_ok ?_ | refine ZH ?_ ?_ | refine ZJ (by conv=>lhs; simp [h0,q1,qn,ob,r1,r2,r3,qc,qw,m1]) ?_ | refine ZA ?_ ?_)
       exact ⟨⟨(1 + 1,_,w + 1,c + 1),by dsimp only; omega,by simp [lk_st,h0,grB,Grd.row],by rw [sw,wri,if_pos m0],by rw [sh,hol,if_neg (by omega)]⟩,by dsimp only; omega,AS.le_of rfl ⟨rfl,rfl,rfl,rfl,rfl,rfl,trivial⟩ (fun _=>rfl)⟩
     · change obS [.int .i64 1] [] = some (.int .u64 72057594037927938,[]) at ob
       change hoS [.agg [.int .i64 1, .list 41 (a2.map Tok.c)], .int .u64 72057594037927938,_] [] = _ at r1
       change hoS [.agg [.int .i64 1, .list 41 (a2.map Tok.c)], .int .u64 72057594037927938,_] [] = _ at r2
       change getS [.agg [.int .i64 1, .list 41 (a2.map Tok.c)], .int .u64 72057594037927938] _ = some (.tup [.agg (dvN 72057594037927938 v1),_],_) at r3
       simp only [dvN] at r3
       repeat' (first | intro (hb : _ = _) | refine ZV ?_ | refine ZB tm ggd_specs_ok ?_ | refine ZH ?_ ?_ | refine ZJ (by conv=>lhs; simp [h0,q1,qn,ob,r1,r2,r3,qc,qw,m1]) ?_ | refine ZA ?_ ?_)
       exact ⟨⟨(1 + 1,_,w + 1,c + 1),by dsimp only; omega,by simp [lk_st,h0,grB,Grd.row],by rw [sw,wri,if_pos m0],by rw [sh,hol,if_neg (by omega)]⟩,by dsimp only; omega,AS.le_of rfl ⟨rfl,rfl,rfl,rfl,rfl,rfl,trivial⟩ (fun _=>rfl)⟩
 subst hn
 · change hoS [.agg [.int .i64 2, .list 41 (a3.map Tok.c)],_,_] _ = _ at r1
   change hoS [.agg [.int .i64 2, .list 41 (a3.map Tok.c)],_,_] _ = _ at r2
   change ∀ hm ho,getS [.agg [.int .i64 2, .list 41 (a3.map Tok.c)],_] _ = _ at r3
   rcases co with m0 | ⟨m0 | m0,ho⟩
   · have e1 : decide (1 ≤ t.mode) = false:=by rw [m0]; decide
     rw [e1] at r1
     repeat' (first | intro (hb : _ = _) | refine ZV ?_ | refine ZB tm ggd_specs_ok ?_ | refine ZH ?_ ?_ | refine ZJ (by conv=>lhs; simp [h0,q1,qn,ob,r1]) ?_ | refine ZA ?_ ?_)
     exact ⟨⟨(2 + 1,_,w,c),by dsimp only; omega,h0,by rw [sw,wri,if_neg (by omega)]; rfl,by rw [sh,hol,if_pos m0]; rfl⟩,by dsimp only; omega,AS.le_of rfl ⟨rfl,rfl,rfl,rfl,rfl,rfl,trivial⟩ (fun _=>rfl)⟩
   · have r3:=r3 (.inl m0) ho
     have e1 : decide (1 ≤ t.mode) = true:=by rw [m0]; decide
     have e2 : decide (2 ≤ t.mode) = false:=by rw [m0]; decide
     rw [e1] at r1
     rw [e2] at r2
     rcases hk2 with hk0 | hk0 <;> (obtain rfl : k = _:=Int.ofNat_inj.1 hk0)
     · change obS [.int .i64 0] [] = some (.int .u64 72057594037927937,[]) at ob
       change hoS [.agg [.int .i64 2, .list 41 (a3.map Tok.c)], .int .u64 72057594037927937,_] [] = _ at r1
       change hoS [.agg [.int .i64 2, .list 41 (a3.map Tok.c)], .int .u64 72057594037927937,_] [] = _ at r2
       change getS [.agg [.int .i64 2, .list 41 (a3.map Tok.c)], .int .u64 72057594037927937] _ = some (.tup [.agg (dvN 72057594037927937 v0),_],_) at r3
       simp only [dvN] at r3
       repeat' (first | intro (hb : _ = _) | refine ZV ?_ | refine ZB tm ggd_specs_ok ?_ | refine ZH ?_ ?_ | refine ZJ (by conv=>lhs; simp [h0,q1,qn,ob,r1,r2,r3,qc,m1]) ?_ | refine ZA ?_ ?_)
       exact ⟨⟨(2 + 1,_,w,c + 1),by dsimp only; omega,by simp [lk_st,h0,grB,Grd.row],by rw [sw,wri,if_neg (by omega)]; rfl,by rw [sh,hol,if_neg (by omega)]⟩,by dsimp only; omega,AS.le_of rfl ⟨rfl,rfl,rfl,rfl,rfl,rfl,trivial⟩ (fun _=>rfl)⟩
     · change obS [.int .i64 1] [] = some (.int .u64 72057594037927938,[]) at ob
       change hoS [.agg [.int .i64 2, .list 41 (a3.map Tok.c)], .int .u64 72057594037927938,_] [] = _ at r1
       change hoS [.agg [.int .i64 2, .list 41 (a3.map Tok.c)], .int .u64 72057594037927938,_] [] = _ at r2
       change getS [.agg [.int .i64 2, .list 41 (a3.map Tok.c)], .int .u64 72057594037927938] _ = some (.tup [.agg (dvN 72057594037927938 v1),_],_) at r3
       simp only [dvN] at r3
       repeat' (first | intro (hb : _ = _) | refine ZV ?_ | refine ZB tm ggd_specs_ok ?_ | refine ZH ?_ ?_ | refine ZJ (by conv=>lhs; simp [h0,q1,qn,ob,r1,r2,r3,qc,m1]) ?_ | refine ZA ?_ ?_)
       exact ⟨⟨(2 + 1,_,w,c + 1),by dsimp only; omega,by simp [lk_st,h0,grB,Grd.row],by rw [sw,wri,if_neg (by omega)]; rfl,by rw [sh,hol,if_neg (by omega)]⟩,by dsimp only; omega,AS.le_of rfl ⟨rfl,rfl,rfl,rfl,rfl,rfl,trivial⟩ (fun _=>rfl)⟩
   · have r3:=r3 (.inr m0) ho
     have e1 : decide (1 ≤ t.mode) = true:=by rw [m0]; decide
     have e2 : decide (2 ≤ t.mode) = true:=by rw [m0]; decide
     rw [e1] at r1
     rw [e2] at r2
     rcases hk2 with hk0 | hk0 <;> (obtain rfl : k = _:=Int.ofNat_inj.1 hk0)
     · change obS [.int .i64 0] [] = some (.int .u64 72057594037927937,[]) at ob
       change hoS [.agg [.int .i64 2, .list 41 (a3.map Tok.c)], .int .u64 72057594037927937,_] [] = _ at r1
       change hoS [.agg [.int .i64 2, .list 41 (a3.map Tok.c)], .int .u64 72057594037927937,_] [] = _ at r2
       change getS [.agg [.int .i64 2, .list 41 (a3.map Tok.c)], .int .u64 72057594037927937] _ = some (.tup [.agg (dvN 72057594037927937 v0),_],_) at r3
       simp only [dvN] at r3
       repeat' (first | intro (hb : _ = _) | refine ZV ?_ | refine ZB tm ggd_specs_ok ?_ | refine ZH ?_ ?_ | refine ZJ (by conv=>lhs; simp [h0,q1,qn,ob,r1,r2,r3,qc,qw,m1]) ?_ | refine ZA ?_ ?_)
       exact ⟨⟨(2 + 1,_,w + 1,c + 1),by dsimp only; omega,by simp [lk_st,h0,grB,Grd.row],by rw [sw,wri,if_pos m0],by rw [sh,hol,if_neg (by omega)]⟩,by dsimp only; omega,AS.le_of rfl ⟨rfl,rfl,rfl,rfl,rfl,rfl,trivial⟩ (fun _=>rfl)⟩
     · change obS [.int .i64 1] [] = some (.int .u64 72057594037927938,[]) at ob
       change hoS [.agg [.int .i64 2, .list 41 (a3.map Tok.c)], .int .u64 72057594037927938,_] [] = _ at r1
       change hoS [.agg [.int .i64 2, .list 41 (a3.map Tok.c)], .int .u64 72057594037927938,_] [] = _ at r2
       change getS [.agg [.int .i64 2, .list 41 (a3.map Tok.c)], .int .u64 72057594037927938] _ = some (.tup [.agg (dvN 72057594037927938 v1),_],_) at r3
       simp only [dvN] at r3
       repeat' (first | intro (hb : _ = _) | refine ZV ?_ | refine ZB tm ggd_specs_ok ?_ | refine ZH ?_ ?_ | refine ZJ (by conv=>lhs; simp [h0,q1,qn,ob,r1,r2,r3,qc,qw,m1]) ?_ | refine ZA ?_ ?_)
       exact ⟨⟨(2 + 1,_,w + 1,c + 1),by dsimp only; omega,by simp [lk_st,h0,grB,Grd.row],by rw [sw,wri,if_pos m0],by rw [sh,hol,if_neg (by omega)]⟩,by dsimp only; omega,AS.le_of rfl ⟨rfl,rfl,rfl,rfl,rfl,rfl,trivial⟩ (fun _=>rfl)⟩
end
section
noncomputable def askM (n id w : Int) : Msg := ⟨n,0,1,id,w,zOb,0,0,0,0⟩
noncomputable def retM (n id a : Int) (o : Ob) : Msg := ⟨n,0,4,id,a,o,0,0,0,0⟩
inductive Rn (id n : Int) (V : Ob → Prop) : Int → Int → Bool → List Msg → List Msg → Int → Bool → Int → Prop
 | s00 (a : Int) : Rn id n V a 0 false [] [] a false 0
 | s01 (a : Int) (ha : a ≠ 0) : Rn id n V a 0 false [] [revM 0 id n] a true 0
 | s02 (a : Int) (ha : a ≠ 0) : Rn id n V a 0 true [] [] a true 0
 | s03 (v b : Int) (o : Ob) (hv : v ≠ 0) (ho : v = 2 → V o) : Rn id n V 0 0 false [retM n id b o] [] v true 0
 | s10 (a w : Int) (hw : w = 1 ∨ w = 2) (hl : a < w) : Rn id n V a w false [askM n id w] [] a false 0
 | s11 (a w : Int) (hw : w = 1 ∨ w = 2) (hl : a < w) (ha : a ≠ 0) : Rn id n V a w false [askM n id w] [revM 0 id n] a true 0
 | s12 (a w : Int) (hw : w = 1 ∨ w = 2) (hl : a < w) (ha : a ≠ 0) : Rn id n V a w true [askM n id w] [] a true 0
 | s13 (v b w : Int) (o : Ob) (hw : w = 1 ∨ w = 2) (hl : v < w) (hv : v ≠ 0) (ho : v = 2 → V o) : Rn id n V 0 w false [askM n id w,retM n id b o] [] v true 0
 | s14 (v b w : Int) (o : Ob) (hw : w = 1 ∨ w = 2) (hv : v ≠ 0) (ho : v = 2 → V o) : Rn id n V 0 w false [retM n id b o,askM n id w] [] v true 0
 | s20 (a w : Int) (hw : w = 1 ∨ w = 2) (hl : a < w) : Rn id n V a w false [] [] a false w
 | s21 (a w : Int) (hw : w = 1 ∨ w = 2) (hl : a < w) (ha : a ≠ 0) : Rn id n V a w false [] [revM 0 id n] a true w
 | s22 (a w : Int) (hw : w = 1 ∨ w = 2) (hl : a < w) (ha : a ≠ 0) : Rn id n V a w true [] [] a true w
 | s23 (v b w : Int) (o : Ob) (hw : w = 1 ∨ w = 2) (hv : v ≠ 0) (ho : v = 2 → V o) : Rn id n V 0 w false [retM n id b o] [] v true w
 | s30 (a w : Int) (o : Ob) (hw : w = 1 ∨ w = 2) (hl : a < w) (ho : V o) : Rn id n V a w false [] [graM 0 id n w o] w false 0
 | s31 (a w : Int) (o : Ob) (hw : w = 1 ∨ w = 2) (hl : a < w) (ho : V o) : Rn id n V a w false [] [graM 0 id n w o,revM 0 id n] w true 0
variable {id n : Int} {V : Ob → Prop} {a w : Int} {due : Bool} {U D : List Msg} {vm : Int} {vd : Bool} {va : Int}
theorem Rn.want (h : Rn id n V a w due U D vm vd va) (h0 : w = 0) {m : Int} (hm : m = 1 ∨ m = 2) (hl : a < m) : Rn id n V a m due (U ++ [askM n id m]) D vm vd va := by
 cases h
 · exact .s10 _ _ hm hl
 · exact .s11 _ _ hm hl ‹_›
 · exact .s12 _ _ hm hl ‹_›
 · exact .s14 _ _ _ _ hm ‹_› ‹_›
 all_goals omega
theorem Rn.rev (h : Rn id n V a w due U D vm vd va) {D' : List Msg} {m : Msg} (hD : D = m :: D') (hk : m.kind = 3) : m = revM 0 id n ∧ a ≠ 0 ∧ due = false ∧ Rn id n V a w true U D' vm vd va ∧ ∀ b o,(a = 2 → V o) → Rn id n V 0 w false (U ++ [retM n id b o]) D' vm vd va := by
 cases h
 all_goals simp only [List.cons.injEq,reduceCtorEq] at hD
 all_goals obtain ⟨rfl,rfl⟩:=hD
 · exact ⟨rfl, ‹_›,rfl, .s02 _ ‹_›,fun b o ho => .s03 _ _ _ ‹_› ho⟩
 · exact ⟨rfl, ‹_›,rfl, .s12 _ _ ‹_› ‹_› ‹_›,fun b o ho => .s13 _ _ _ _ ‹_› ‹_› ‹_› ho⟩
 · exact ⟨rfl, ‹_›,rfl, .s22 _ _ ‹_› ‹_› ‹_›,fun b o ho => .s23 _ _ _ _ ‹_› ‹_› ho⟩
 all_goals (simp only [graM] at hk; omega)
theorem Rn.unpin (h : Rn id n V a w due U D vm vd va) (hd : due = true) (b : Int) {o : Ob} (ho : a = 2 → V o) : Rn id n V 0 w false (U ++ [retM n id b o]) D vm vd va := by
 cases h
 all_goals first | (exact absurd hd (by decide)) | skip
 · exact .s03 _ _ _ ‹_› ho
 · exact .s13 _ _ _ _ ‹_› ‹_› ‹_› ho
 · exact .s23 _ _ _ _ ‹_› ‹_› ho
theorem Rn.grant (h : Rn id n V a w due U D vm vd va) {D' : List Msg} {m : Msg} (hD : D = m :: D') (hk : m.kind = 2) : ∃ o,m = graM 0 id n w o ∧ (w = 1 ∨ w = 2) ∧ due = false ∧ a < w ∧ V o ∧ Rn id n V w 0 false U D' vm vd va := by
 cases h
 all_goals simp only [List.cons.injEq,reduceCtorEq] at hD
 all_goals obtain ⟨rfl,rfl⟩:=hD
 all_goals first | (simp only [revM] at hk; omega) | skip
 · exact ⟨_,rfl, ‹_›,rfl, ‹_›, ‹_›, .s00 _⟩
 · exact ⟨_,rfl, ‹_›,rfl, ‹_›, ‹_›, .s01 _ (by omega)⟩
theorem Rn.ask (h : Rn id n V a w due U D vm vd va) {U' : List Msg} {m : Msg} (hU : U = m :: U') (hk : m.kind = 1) : m = askM n id w ∧ (w = 1 ∨ w = 2) ∧ vm < w ∧ va = 0 ∧ Rn id n V a w due U' D vm vd w := by
 cases h
 all_goals simp only [List.cons.injEq,reduceCtorEq] at hU
 all_goals obtain ⟨rfl,rfl⟩:=hU
 all_goals first | (simp only [retM] at hk; omega) | skip
 · exact ⟨rfl, ‹_›, ‹_›,rfl, .s20 _ _ ‹_› ‹_›⟩
 · exact ⟨rfl, ‹_›, ‹_›,rfl, .s21 _ _ ‹_› ‹_› ‹_›⟩
 · exact ⟨rfl, ‹_›, ‹_›,rfl, .s22 _ _ ‹_› ‹_› ‹_›⟩
 · exact ⟨rfl, ‹_›, ‹_›,rfl, .s23 _ _ _ _ ‹_› ‹_› ‹_›⟩
theorem Rn.ret (h : Rn id n V a w due U D vm vd va) {U' : List Msg} {m : Msg} (hU : U = m :: U') (hk : m.kind = 4) : ∃ b o,m = retM n id b o ∧ vd = true ∧ vm ≠ 0 ∧ (vm = 2 → V o) ∧ Rn id n V a w due U' D 0 false va := by
 cases h
 all_goals simp only [List.cons.injEq,reduceCtorEq] at hU
 all_goals obtain ⟨rfl,rfl⟩:=hU
 all_goals first | (simp only [askM] at hk; omega) | skip
 · exact ⟨_,_,rfl,rfl, ‹_›, ‹_›, .s00 _⟩
 · exact ⟨_,_,rfl,rfl, ‹_›, ‹_›, .s10 _ _ ‹_› (by omega)⟩
 · exact ⟨_,_,rfl,rfl, ‹_›, ‹_›, .s20 _ _ ‹_› (by omega)⟩
theorem Rn.dem (h : Rn id n V a w due U D vm vd va) (hd : vd = false) (hv : vm ≠ 0) : Rn id n V a w due U (D ++ [revM 0 id n]) vm true va := by
 cases h
 all_goals first | (exact absurd hd (by decide)) | skip
 · exact .s01 _ ‹_›
 · exact .s11 _ _ ‹_› ‹_› ‹_›
 · exact .s21 _ _ ‹_› ‹_› ‹_›
 · exact .s31 _ _ _ ‹_› ‹_› ‹_›
theorem Rn.gra (h : Rn id n V a w due U D vm vd va) (hd : vd = false) (hv : va ≠ 0) {o : Ob} (ho : V o) : Rn id n V a w due U (D ++ [graM 0 id n va o]) va false 0 := by
 cases h
 all_goals first | (exact absurd hd (by decide)) | (exact absurd rfl hv) | skip
 · exact .s30 _ _ _ ‹_› ‹_› ho
theorem Rn.chg0 (h : Rn id n V a w due U D vm vd va) (hv : vm = 0) (V' : Ob → Prop) : Rn id n V' a w due U D vm vd va := by
 cases h
 all_goals first | (exact absurd hv ‹_›) | (rcases ‹_ ∨ _› with e | e <;> rw [e] at hv <;> exact absurd hv (by decide)) | skip
 · exact .s00 _
 · exact .s10 _ _ ‹_› ‹_›
 · exact .s20 _ _ ‹_› ‹_›
theorem Rn.chg2 (h : Rn id n V a w due U D vm vd va) (hv : a = 2) (V' : Ob → Prop) : vm = 2 ∧ Rn id n V' a w due U D vm vd va := by
 cases h
 · exact ⟨hv, .s00 _⟩
 · exact ⟨hv, .s01 _ ‹_›⟩
 · exact ⟨hv, .s02 _ ‹_›⟩
 all_goals omega
theorem Rn.mode (h : Rn id n V a w due U D vm vd va) : (a ≠ 0 → vm ≠ 0) ∧ (a = 2 → vm = 2) := by
 cases h
 all_goals constructor
 all_goals omega
def mC (m : Msg) : Nat := if m.kind = 1 then 6 else if m.kind = 3 then 2 else 1
def cst : List Msg → Nat
 | []=>0
 | m :: r=>mC m + cst r
theorem cst_app : ∀ l r : List Msg,cst (l ++ r) = cst l + cst r
 | [],r=>by simp [cst]
 | m :: l,r=>by rw [List.cons_append,cst,cst,cst_app l r]; omega
theorem mC_pos (m : Msg) : 1 ≤ mC m := by unfold mC; split; omega; split <;> omega
theorem cst_len : ∀ l : List Msg,l.length ≤ cst l
 | []=>Nat.le_refl _
 | m :: r=>by have:=cst_len r; have:=mC_pos m; simp only [List.length_cons,cst]; omega
theorem Rn.cost (h : Rn id n V a w due U D vm vd va) : cst U + cst D + (if due = true then 1 else 0) + (if va = 0 then 0 else 5) ≤ 8 := by
 cases h
 all_goals simp [cst,mC,askM,retM,revM,graM]
 all_goals first | done | (split <;> omega)
theorem Rn.fin (h : Rn id n V a w due U D vm vd va) (h1 : U = []) (h2 : D = []) (h3 : due = false) : vd = false ∧ (va = 0 → w = 0) := by
 cases h
 all_goals first | (cases h1; done) | (cases h2; done) | (cases h3; done) | exact ⟨rfl,fun h=>rfl⟩ | exact ⟨rfl,fun h=>by omega⟩
end
section
noncomputable def tkF (l : List Tok) (id : Int) : Tok := (fnd id l).getD (tok0 id)
def isK (i : Int) : Prop := i = idG 0 ∨ i = idG 1
structure TkOK (l : List Tok) : Prop where
 srt : Srt l
 fine : ∀ t ∈ l,fineR t = true
 ids : ∀ t ∈ l,isK t.id
theorem TkOK.nil : TkOK [] := ⟨List.Pairwise.nil,fun t h => (by cases h),fun t h => (by cases h)⟩
theorem TkOK.valid {l : List Tok} (h : TkOK l) {nd : Int} (hn : okN nd = true) : valid nd l = true := by
 rw [valid_yes,hn]
 intro k hk
 unfold good
 rw [List.getElem?_eq_getElem hk]
 simp only [h.fine _ (List.getElem_mem hk),Bool.true_and]
 cases k with
 | zero=>rfl
 | succ i =>
   simp only [List.getElem?_eq_getElem (show i < l.length by omega),decide_eq_true_eq]
   exact List.pairwise_iff_getElem.1 h.srt i (i + 1) (by omega) hk (by omega)
theorem TkOK.len {l : List Tok} (h : TkOK l) : l.length ≤ 2 := by
 have h1 : (l.map (·.id)).Nodup:=by
   rw [List.Nodup,List.pairwise_map]
   exact h.srt.imp fun h=>by omega
 have:=Dir.nodup_len (S:=[idG 0,idG 1]) h1 (fun x hx=>by
   obtain ⟨t,ht,rfl⟩:=List.mem_map.1 hx
   rcases h.ids t ht with e | e <;> simp [e])
 simpa using this
theorem fnd_skip {id : Int} : ∀ {A B : List Tok},(∀ x ∈ A,x.id ≠ id) → fnd id (A ++ B) = fnd id B
 | [],B,_=>rfl
 | x :: A,B,h=>by
   rw [List.cons_append,fnd,if_neg (h x (by simp))]
   exact fnd_skip fun y hy=>h y (by simp [hy])
theorem fnd_no {id : Int} {A : List Tok} (h : ∀ x ∈ A,x.id ≠ id) : fnd id A = none := by
 have:=fnd_skip (B:=[]) h
 rw [List.append_nil] at this
 exact this
theorem fnd_mem {id : Int} : ∀ {l : List Tok} {t : Tok},fnd id l = some t → t ∈ l ∧ t.id = id
 | [],t,h=>by cases h
 | x :: r,t,h=>by
   rw [fnd] at h
   split at h
   · cases h
     exact ⟨by simp,by assumption⟩
   · have:=fnd_mem h
     exact ⟨by simp [this.1],this.2⟩
theorem tkF_id (l : List Tok) (id : Int) : (tkF l id).id = id := by
 unfold tkF
 cases h : fnd id l with
 | none=>rfl
 | some t=>exact (fnd_mem h).2
theorem tpart (id : Int) : ∀ {l : List Tok},Srt l → ∃ A M D,l = A ++ (M ++ D) ∧ (∀ x ∈ A,x.id < id) ∧ (∀ x ∈ D,id < x.id) ∧ (M = [] ∨ ∃ x,M = [x] ∧ x.id = id)
 | [],_=>⟨[],[],[],rfl,by simp,by simp, .inl rfl⟩
 | x :: r,h=>by
   obtain ⟨h1,h2⟩:=List.pairwise_cons.1 h
   by_cases e : x.id < id
   · obtain ⟨A,M,D,e1,e2,e3,e4⟩:=tpart id h2
     refine ⟨x :: A,M,D,by rw [e1]; rfl,fun y hy=>?_,e3,e4⟩
     rcases List.mem_cons.1 hy with rfl | hy
     · exact e
     · exact e2 y hy
   · by_cases e2 : x.id = id
     · exact ⟨[],[x],r,rfl,by simp,fun y hy=>by have:=h1 y hy; omega, .inr ⟨x,rfl,e2⟩⟩
     · exact ⟨[],[],x :: r,rfl,by simp,fun y hy=>by
         rcases List.mem_cons.1 hy with rfl | hy
         · omega
         · have:=h1 y hy; omega, .inl rfl⟩
theorem putL_out {t : Tok} : ∀ (A D : List Tok) (g : Bool),(∀ y ∈ A,y.id < t.id) → (∀ y ∈ D,t.id < y.id) → putL t g (A ++ D) = A ++ ((if g = true then [] else [t]) ++ D)
 | [],[],g,_,_=>by cases g <;> simp [putL]
 | [],x :: D,g,_,hD=>by
   have hx:=hD x (by simp)
   rw [List.nil_append,putL,if_neg (show ¬ x.id = t.id by omega),show (g || decide (t.id ≤ x.id)) = true by simp; right; omega,putL_gt fun y hy=>hD y (by simp [hy])]
   cases g with
   | true=>rfl
   | false=>rw [if_pos ⟨rfl,by omega⟩]; rfl
 | y :: A,D,g,hA,hD=>by
   have hy:=hA y (by simp)
   rw [List.cons_append,putL,if_neg (by omega),if_neg (by omega),show (g || decide (t.id ≤ y.id)) = g by rw [decide_eq_false (by omega),Bool.or_false],putL_out A D g (fun z hz=>hA z (by simp [hz])) hD]
   rfl
theorem put_part {t : Tok} {l : List Tok} (h : Srt l) : ∃ A M D,l = A ++ (M ++ D) ∧ put t l = A ++ ((if t.gone = true then [] else [t]) ++ D) ∧ (∀ x ∈ A,x.id < t.id) ∧ (∀ x ∈ D,t.id < x.id) ∧ (∀ x ∈ M,x.id = t.id) := by
 obtain ⟨A,M,D,e1,e2,e3,e4⟩:=tpart t.id h
 refine ⟨A,M,D,e1, ?_,e2,e3, ?_⟩
 · rw [put,e1]
   rcases e4 with rfl | ⟨x,rfl,e4⟩
   · exact putL_out A D _ e2 e3
   · exact putL_mid A D _ e2 e4 e3
 · rcases e4 with rfl | ⟨x,rfl,e4⟩
   · simp
   · intro y hy
     simp only [List.mem_singleton] at hy
     rw [hy,e4]
theorem tkF_put {t : Tok} {l : List Tok} (h : Srt l) (j : Int) : tkF (put t l) j = if j = t.id then (if t.gone = true then tok0 j else t) else tkF l j := by
 obtain ⟨A,M,D,e1,e2,e3,e4,e5⟩:=put_part (t:=t) h
 unfold tkF
 rw [e2]
 by_cases hj : j = t.id
 · rw [if_pos hj]
   subst hj
   rw [fnd_skip fun x hx=>by have:=e3 x hx; omega]
   cases t.gone with
   | true =>
     rw [if_pos rfl,if_pos rfl,List.nil_append,fnd_no fun x hx=>by have:=e4 x hx; omega]
     rfl
   | false =>
     rw [if_neg (by decide),if_neg (by decide),List.cons_append,fnd,if_pos rfl]
     rfl
 · rw [if_neg hj,e1]
   by_cases hA : ∀ x ∈ A,x.id ≠ j
   · rw [fnd_skip hA,fnd_skip hA,fnd_skip (A:=M) fun x hx=>by have:=e5 x hx; omega]
     rw [fnd_skip]
     intro x hx
     split at hx
     · cases hx
     · simp only [List.mem_singleton] at hx
       rw [hx]
       omega
   · have : ∀ (A B C : List Tok),(¬ ∀ x ∈ A,x.id ≠ j) → fnd j (A ++ B) = fnd j (A ++ C):=by
       intro A
       induction A with
       | nil=>intro B C h; exact absurd (by simp) h
       | cons x A ih =>
         intro B C h
         rw [List.cons_append,List.cons_append,fnd,fnd]
         split
         · rfl
         · rename_i hx
           refine ih B C fun h2=>h fun y hy=>?_
           rcases List.mem_cons.1 hy with rfl | hy
           · exact hx
           · exact h2 y hy
     rw [this A _ (M ++ D) hA]
theorem put_ok' {t : Tok} {l : List Tok} (h : TkOK l) (hf : t.gone = true ∨ fineR t = true) (hi : isK t.id) : TkOK (put t l) := by
 obtain ⟨A,M,D,e1,e2,e3,e4,e5⟩:=put_part (t:=t) h.srt
 have hs:=h.srt
 rw [e1] at hs
 obtain ⟨s1,s2,s3⟩:=List.pairwise_append.1 hs
 obtain ⟨s4,s5,s6⟩:=List.pairwise_append.1 s2
 have hm : ∀ x ∈ put t l,(t.gone = false ∧ x = t) ∨ x ∈ l:=fun x hx=>by
   rw [e2] at hx
   simp only [List.mem_append] at hx
   rw [e1]
   simp only [List.mem_append]
   rcases hx with hx | hx | hx
   · exact .inr (.inl hx)
   · split at hx
     · cases hx
     · rename_i hg
       exact .inl ⟨by simpa using hg,by simpa using hx⟩
   · exact .inr (.inr (.inr hx))
 refine ⟨?_,fun x hx=>?_,fun x hx=>?_⟩
 · rw [e2]
   unfold Srt
   rw [List.pairwise_append,List.pairwise_append]
   refine ⟨s1,⟨by split <;> simp,s5,fun a ha b hb=>?_⟩,fun a ha b hb=>?_⟩
   · split at ha
     · cases ha
     · simp only [List.mem_singleton] at ha
       rw [ha]
       exact e4 b hb
   · have h1:=e3 a ha
     rcases List.mem_append.1 hb with hb | hb
     · split at hb
       · cases hb
       · simp only [List.mem_singleton] at hb
         rw [hb]
         exact h1
     · have:=e4 b hb
       omega
 · rcases hm x hx with ⟨g,rfl⟩ | hx
   · rcases hf with hf | hf
     · rw [g] at hf; cases hf
     · exact hf
   · exact h.fine x hx
 · rcases hm x hx with ⟨g,rfl⟩ | hx
   · exact hi
   · exact h.ids x hx
theorem fineR_iff {t : Tok} : fineR t = true ↔ t.id ≠ 0 ∧ (t.mode = 0 ∨ t.mode = 1 ∨ t.mode = 2) ∧ (t.want = 0 ∨ ((t.want = 1 ∨ t.want = 2) ∧ t.mode < t.want)) ∧ (zO? t.obj = true ∨ (oid t.obj = t.id ∧ t.mode ≠ 0)) ∧ (t.pin = true → t.mode ≠ 0) ∧ (t.due = true → t.pin = true) ∧ (t.mode ≠ 0 ∨ t.want ≠ 0) := by
 have hm : ∀ m,okM m = true ↔ m = 1 ∨ m = 2:=fun m=>by simp [okM]
 unfold fineR
 cases hp : t.pin <;> cases hd : t.due <;> simp [hm]
theorem tkF_fine {l : List Tok} (h : TkOK l) (id : Int) : tkF l id = tok0 id ∨ fineR (tkF l id) = true := by
 unfold tkF
 cases hf : fnd id l with
 | none=>exact .inl rfl
 | some t=>exact .inr (h.fine t (fnd_mem hf).1)
theorem unpL_ok {l : List Tok} (h : TkOK l) : TkOK (unpL l) := by
 obtain ⟨h1,h2,h3⟩:=h
 induction l with
 | nil=>exact .nil
 | cons t r ih =>
   obtain ⟨s1,s2⟩:=List.pairwise_cons.1 h1
   have hr:=ih s2 (fun x hx=>h2 x (by simp [hx])) (fun x hx=>h3 x (by simp [hx]))
   have hlt : ∀ y ∈ unpL r,t.id < y.id:=fun y hy=>by
     obtain ⟨x,hx,e⟩:=unpL_ids r y hy
     have:=s1 x hx
     omega
   have ht:=fineR_iff.1 (h2 t (by simp))
   obtain ⟨f1,f2,f3,f4,f5,f6,f7⟩:=ht
   have cons : ∀ x : Tok,x.id = t.id → fineR x = true → TkOK (x :: unpL r):=fun x hx hf =>
     ⟨List.Pairwise.cons (fun y hy=>by rw [hx]; exact hlt y hy) hr.srt,fun y hy=>by
       rcases List.mem_cons.1 hy with rfl | hy
       · exact hf
       · exact hr.fine y hy,fun y hy=>by
       rcases List.mem_cons.1 hy with rfl | hy
       · rw [hx]; exact h3 t (by simp)
       · exact hr.ids y hy⟩
   rw [unpL]
   split
   · split
     · exact hr
     · rename_i hw
       refine cons _ rfl (fineR_iff.2 ⟨f1, .inl rfl, .inr ?_, .inl zO_zOb,by simp [bckT],by simp [bckT], .inr hw⟩)
       rcases f3 with f3 | f3
       · exact absurd f3 hw
       · exact ⟨f3.1,by show (0 : Int) < t.want; omega⟩
   · rename_i hd
     exact cons _ rfl (fineR_iff.2 ⟨f1,f2,f3,f4,by simp [unpinT],fun e=>absurd e hd,f7⟩)
theorem fnd_unp {l : List Tok} (id : Int) (h : Srt l) : tkF (unpL l) id = if (tkF l id).due = true then bckT (tkF l id) else unpinT (tkF l id) := by
 obtain ⟨A,M,D,e1,e2,e3,e4⟩:=tpart id h
 have hA : ∀ x ∈ unpL A,x.id ≠ id:=fun x hx=>by
   obtain ⟨y,hy,e⟩:=unpL_ids A x hx
   have:=e2 y hy
   omega
 have hD : ∀ x ∈ unpL D,x.id ≠ id:=fun x hx=>by
   obtain ⟨y,hy,e⟩:=unpL_ids D x hx
   have:=e3 y hy
   omega
 have hA2 : ∀ x ∈ A,x.id ≠ id:=fun x hx=>by have:=e2 x hx; omega
 have hD2 : ∀ x ∈ D,x.id ≠ id:=fun x hx=>by have:=e3 x hx; omega
 unfold tkF
 rw [e1,unpL_app,unpL_app,fnd_skip hA,fnd_skip hA2]
 rcases e4 with rfl | ⟨x,rfl,hx⟩
 · rw [show unpL [] = [] from rfl,List.nil_append,List.nil_append,fnd_no hD,fnd_no hD2]
   rfl
 · rw [List.cons_append,List.nil_append,fnd,if_pos hx]
   simp only [Option.getD_some,unpL]
   split
   · split
     · rename_i hw
       rw [List.nil_append,fnd_no hD]
       simp only [Option.getD_none,bckT,tok0,hw,hx]
     · rw [List.cons_append,fnd,if_pos (show (bckT x).id = id from hx)]
       rfl
   · rw [List.cons_append,fnd,if_pos (show (unpinT x).id = id from hx)]
     rfl
theorem upM_eq (n : Int) (l : List Tok) : upM n l = (dues l).map fun t => bckM n t 0 := by
 unfold upM unpM
 generalize dues l = L
 induction L with
 | nil=>rfl
 | cons t r ih =>
   rw [List.length_cons,List.replicate_succ,List.zipWith_cons_cons,ih,List.map_cons]
theorem upM_fil {l : List Tok} (n id : Int) (h : Srt l) : (upM n l).filter (fun m => m.id == id) = if (tkF l id).due = true then [bckM n (tkF l id) 0] else [] := by
 obtain ⟨A,M,D,e1,e2,e3,e4⟩:=tpart id h
 have none : ∀ B : List Tok,(∀ x ∈ B,x.id ≠ id) → ((dues B).map fun t=>bckM n t 0).filter (fun m=>m.id == id) = []:=fun B hB=>by
   rw [List.filter_eq_nil_iff]
   intro m hm
   obtain ⟨t,ht,rfl⟩:=List.mem_map.1 hm
   have:=hB t (List.mem_filter.1 ht).1
   simpa [bckM] using this
 have hA2 : ∀ x ∈ A,x.id ≠ id:=fun x hx=>by have:=e2 x hx; omega
 have hD2 : ∀ x ∈ D,x.id ≠ id:=fun x hx=>by have:=e3 x hx; omega
 rw [upM_eq,e1,show dues (A ++ (M ++ D)) = dues A ++ (dues M ++ dues D) by simp [dues],List.map_append,List.map_append,List.filter_append,List.filter_append,none A hA2,none D hD2,List.nil_append,List.append_nil]
 unfold tkF
 rw [fnd_skip hA2]
 rcases e4 with rfl | ⟨x,rfl,hx⟩
 · rw [List.nil_append,fnd_no hD2]
   rfl
 · rw [List.cons_append,fnd,if_pos hx]
   simp only [Option.getD_some]
   cases hd : x.due with
   | true=>simp [dues,hd,bckM,hx]
   | false=>simp [dues,hd]
theorem upM_mem {l : List Tok} {n : Int} (h : TkOK l) {m : Msg} (hm : m ∈ upM n l) : m.fr = n ∧ m.to = 0 ∧ m.kind = 4 ∧ isK m.id := by
 rw [upM_eq] at hm
 obtain ⟨t,ht,rfl⟩:=List.mem_map.1 hm
 exact ⟨rfl,rfl,rfl,h.ids t (List.mem_filter.1 ht).1⟩
end
section
def Qn (ls : List Lk) (f t : Int) : List Msg := (fndK f t ls).q
structure NtOK (ls : List Lk) : Prop where
 asc : ls.Pairwise fun a b=>befB a b.fr b.to = true
 ok : ∀ l ∈ ls,N3 l.fr ∧ N3 l.to ∧ l.q.length ≤ 4096 ∧ l.q ≠ [] ∧ l.cut = false ∧ ∀ m ∈ l.q,m.fr = l.fr ∧ m.to = l.to
theorem NtOK.nil : NtOK [] := ⟨List.Pairwise.nil,fun l h => (by cases h)⟩
theorem bef_iff {l : Lk} {f t : Int} : befB l f t = true ↔ l.fr < f ∨ (l.fr = f ∧ l.to < t) := by simp [befB]
theorem N3_ok {n : Int} (h : N3 n) : okN n = true := by rcases h with rfl | rfl | rfl <;> rfl
theorem NtOK.valid {ls : List Lk} (h : NtOK ls) : validK ls = true := by
 refine validK_yes fun k hk=>?_
 obtain ⟨a,b,c,d,e,f⟩:=h.ok _ (List.getElem_mem hk)
 unfold goodK
 rw [List.getElem?_eq_getElem hk]
 have h1 : lkB ls[k] = true:=by
   unfold lkB
   rw [N3_ok a,N3_ok b,decide_eq_true c]
   simp [d]
 have h2 : ls[k].q.all (fun m=>m.fr == ls[k].fr && m.to == ls[k].to) = true:=by
   rw [List.all_eq_true]
   intro m hm
   obtain ⟨x,y⟩:=f m hm
   simp [x,y]
 simp only [h1,h2,Bool.true_and]
 cases k with
 | zero=>rfl
 | succ i =>
   simp only [List.getElem?_eq_getElem (show i < ls.length by omega)]
   exact List.pairwise_iff_getElem.1 h.asc i (i + 1) (by omega) hk (by omega)
theorem NtOK.okK {ls : List Lk} (h : NtOK ls) : ∀ l ∈ ls,okK l := fun l hl => by
 have:=(h.ok l hl).2.2.1
 unfold Go.Abs.Np.okK
 omega
theorem NtOK.len {ls : List Lk} (h : NtOK ls) : ls.length ≤ 9 := by
 have h1 : (ls.map fun l=>l.fr * 3 + l.to).Nodup:=by
   rw [List.Nodup,List.pairwise_map]
   refine List.Pairwise.imp_of_mem ?_ h.asc
   intro a b ha hb hab
   obtain ⟨a1,a2,_⟩:=h.ok a ha
   obtain ⟨b1,b2,_⟩:=h.ok b hb
   unfold N3 at a1 a2 b1 b2
   rw [bef_iff] at hab
   omega
 have:=Dir.nodup_len (S:=[0,1,2,3,4,5,6,7,8]) h1 (fun x hx=>by
   obtain ⟨l,hl,rfl⟩:=List.mem_map.1 hx
   obtain ⟨a,b,_⟩:=h.ok l hl
   unfold N3 at a b
   simp only [List.mem_cons,List.not_mem_nil,or_false]
   omega)
 simpa using this
theorem lkIs_iff {f t : Int} {l : Lk} : lkIs f t l = true ↔ l.fr = f ∧ l.to = t := by simp [lkIs]
theorem fndK_eq {ls : List Lk} (h : NtOK ls) (f t : Int) : fndK f t ls = ⟨f,t,false,Qn ls f t⟩ := by
 unfold Qn fndK
 cases hf : ls.find? (lkIs f t) with
 | none=>rfl
 | some l =>
   obtain ⟨e1,e2⟩:=lkIs_iff.1 (List.find?_some hf)
   obtain ⟨_,_,_,_,e3,_⟩:=h.ok l (List.mem_of_find?_eq_some hf)
   obtain ⟨a,b,c,d⟩:=l
   dsimp only at e1 e2 e3
   subst e1 e2 e3
   rfl
theorem Qn_mem {ls : List Lk} (h : NtOK ls) {f t : Int} {m : Msg} (hm : m ∈ Qn ls f t) : m.fr = f ∧ m.to = t ∧ N3 f ∧ N3 t := by
 unfold Qn fndK at hm
 cases hf : ls.find? (lkIs f t) with
 | none=>rw [hf] at hm; cases hm
 | some l =>
   rw [hf] at hm
   obtain ⟨e1,e2⟩:=lkIs_iff.1 (List.find?_some hf)
   obtain ⟨a,b,_,_,_,e3⟩:=h.ok l (List.mem_of_find?_eq_some hf)
   obtain ⟨x,y⟩:=e3 m hm
   rw [e1] at x a
   rw [e2] at y b
   exact ⟨x,y,a,b⟩
theorem Qn_len {ls : List Lk} (h : NtOK ls) (f t : Int) : (Qn ls f t).length ≤ 4096 := by
 unfold Qn fndK
 cases hf : ls.find? (lkIs f t) with
 | none=>simp
 | some l=>exact (h.ok l (List.mem_of_find?_eq_some hf)).2.2.1
theorem Qn_nil {ls : List Lk} (h : NtOK ls) (he : ∀ f t,N3 f → N3 t → Qn ls f t = []) : ls = [] := by
 cases ls with
 | nil=>rfl
 | cons l r =>
   obtain ⟨a,b,_,d,_,_⟩:=h.ok l (by simp)
   have:=he l.fr l.to a b
   unfold Qn fndK at this
   rw [List.find?_cons,show lkIs l.fr l.to l = true from lkIs_iff.2 ⟨rfl,rfl⟩] at this
   exact absurd this d
theorem oth_find {x : Lk} {f t : Int} (hne : ¬ (f = x.fr ∧ t = x.to)) (l : List Lk) : (othK x l).find? (lkIs f t) = l.find? (lkIs f t) := by
 unfold othK
 rw [List.find?_filter]
 congr 1
 funext e
 by_cases he : lkIs f t e = true
 · obtain ⟨a,b⟩:=lkIs_iff.1 he
   rw [he]
   have : (e.fr != x.fr || e.to != x.to) = true:=by
     rw [a,b]
     simp only [Bool.or_eq_true,bne_iff_ne,ne_eq]
     omega
   rw [this]
   rfl
 · rw [Bool.not_eq_true] at he
   rw [he]
   simp
theorem oth_none {x : Lk} (l : List Lk) : (othK x l).find? (lkIs x.fr x.to) = none := by
 rw [List.find?_eq_none]
 intro e he
 have:=(List.mem_filter.1 he).2
 rw [lkIs_iff]
 simp only [Bool.or_eq_true,bne_iff_ne,ne_eq] at this
 omega
theorem putP_find {x : Lk} (f t : Int) : ∀ l : List Lk,(putP x l).find? (lkIs f t) = if f = x.fr ∧ t = x.to then some x else l.find? (lkIs f t)
 | []=>by
   rw [putP,List.find?_cons]
   split
   · rename_i h
     obtain ⟨h1,h2⟩:=lkIs_iff.1 h
     rw [if_pos ⟨h1.symm,h2.symm⟩]
   · rename_i h
     rw [if_neg fun e=>by rw [lkIs_iff.2 ⟨e.1.symm,e.2.symm⟩] at h; cases h]
 | e :: r=>by
   rw [putP]
   split
   · rename_i hb
     rw [bef_iff] at hb
     rw [List.find?_cons,List.find?_cons,putP_find f t r]
     split
     · rename_i h
       obtain ⟨h1,h2⟩:=lkIs_iff.1 h
       rw [if_neg (by omega)]
     · rfl
   · rw [List.find?_cons]
     split
     · rename_i h
       obtain ⟨h1,h2⟩:=lkIs_iff.1 h
       rw [if_pos ⟨h1.symm,h2.symm⟩]
     · rename_i h
       have hne : ¬ (f = x.fr ∧ t = x.to):=fun e=>by rw [lkIs_iff.2 ⟨e.1.symm,e.2.symm⟩] at h; cases h
       rw [if_neg hne,oth_find hne]
theorem mem_putP {x : Lk} : ∀ {l : List Lk} {y : Lk},y ∈ putP x l → y = x ∨ y ∈ l
 | [],y,h=>by simpa [putP] using h
 | e :: r,y,h=>by
   rw [putP] at h
   split at h
   · rcases List.mem_cons.1 h with rfl | h
     · exact .inr (by simp)
     · rcases mem_putP h with h | h
       · exact .inl h
       · exact .inr (by simp [h])
   · rcases List.mem_cons.1 h with h | h
     · exact .inl h
     · exact .inr (List.mem_filter.1 h).1
theorem putP_asc {x : Lk} : ∀ {l : List Lk},(l.Pairwise fun a b => befB a b.fr b.to = true) → (putP x l).Pairwise fun a b => befB a b.fr b.to = true
 | [],_=>by simp [putP]
 | e :: r,h=>by
   obtain ⟨h1,h2⟩:=List.pairwise_cons.1 h
   rw [putP]
   split
   · rename_i hb
     refine List.Pairwise.cons (fun y hy=>?_) (putP_asc h2)
     rcases mem_putP hy with rfl | hy
     · exact hb
     · exact h1 y hy
   · rename_i hb
     refine List.Pairwise.cons (fun y hy=>?_) (h.filter _)
     obtain ⟨y1,y2⟩:=List.mem_filter.1 hy
     rw [bef_iff] at hb ⊢
     simp only [Bool.or_eq_true,bne_iff_ne,ne_eq] at y2
     rcases List.mem_cons.1 y1 with rfl | y1
     · omega
     · have:=bef_iff.1 (h1 y y1)
       omega
theorem putK_ok {ls : List Lk} (h : NtOK ls) {f t : Int} {q : List Msg} (hf : N3 f) (ht : N3 t) (hl : q.length ≤ 4096) (hm : ∀ m ∈ q,m.fr = f ∧ m.to = t) : NtOK (putK ⟨f,t,false,q⟩ ls) ∧ ∀ f' t',Qn (putK ⟨f,t,false,q⟩ ls) f' t' = if f' = f ∧ t' = t then q else Qn ls f' t' := by
 cases q with
 | nil =>
   have e : putK ⟨f,t,false,[]⟩ ls = othK ⟨f,t,false,[]⟩ ls:=rfl
   rw [e]
   refine ⟨⟨h.asc.filter _,fun l hl=>h.ok l (List.mem_filter.1 hl).1⟩,fun f' t'=>?_⟩
   unfold Qn fndK
   split
   · rename_i e
     obtain ⟨rfl,rfl⟩:=e
     rw [oth_none (x:=⟨f',t',false,[]⟩)]
     rfl
   · rename_i e
     rw [oth_find (x:=⟨f,t,false,[]⟩) e]
 | cons m r =>
   have e : putK ⟨f,t,false,m :: r⟩ ls = putP ⟨f,t,false,m :: r⟩ ls:=rfl
   rw [e]
   refine ⟨⟨putP_asc h.asc,fun l hl=>?_⟩,fun f' t'=>?_⟩
   · rcases mem_putP hl with rfl | hl
     · exact ⟨hf,ht,by assumption,by simp,rfl,hm⟩
     · exact h.ok l hl
   · unfold Qn fndK
     rw [putP_find]
     dsimp only
     split
     · rfl
     · rfl
theorem snd_ok {ls : List Lk} (h : NtOK ls) {m : Msg} (hf : N3 m.fr) (ht : N3 m.to) (hl : (Qn ls m.fr m.to).length < 4096) : (sndN ls m).2 = 0 ∧ NtOK (sndN ls m).1 ∧ ∀ f t,Qn (sndN ls m).1 f t = Qn ls f t ++ [m].filter fun m => m.fr == f && m.to == t := by
 have e : sndN ls m = (putK ⟨m.fr,m.to,false,Qn ls m.fr m.to ++ [m]⟩ ls,0):=by
   unfold sndN
   rw [if_neg (by simp [h.valid]),if_neg (by simp [N3_ok hf,N3_ok ht]),fndK_eq h]
   dsimp only
   rw [if_neg (by omega)]
 rw [e]
 obtain ⟨k1,k2⟩:=putK_ok h hf ht (q:=Qn ls m.fr m.to ++ [m]) (by simp; omega) (fun x hx=>by
   rcases List.mem_append.1 hx with hx | hx
   · have:=Qn_mem h hx
     exact ⟨this.1,this.2.1⟩
   · simp only [List.mem_singleton] at hx
     rw [hx]
     exact ⟨rfl,rfl⟩)
 refine ⟨rfl,k1,fun f t=>?_⟩
 rw [k2]
 by_cases hq : f = m.fr ∧ t = m.to
 · obtain ⟨rfl,rfl⟩:=hq
   rw [if_pos ⟨rfl,rfl⟩]
   simp
 · rw [if_neg hq]
   have : ¬ (m.fr = f ∧ m.to = t):=fun e=>hq ⟨e.1.symm,e.2.symm⟩
   simp [this]
theorem send_ok : ∀ {ms : List Msg} {ls : List Lk},NtOK ls → (∀ m ∈ ms,N3 m.fr ∧ N3 m.to) → (∀ f t,(Qn ls f t).length + ms.length ≤ 4096) → SendOK ls ms ∧ NtOK (sendF ls ms) ∧ ∀ f t,Qn (sendF ls ms) f t = Qn ls f t ++ ms.filter fun m => m.fr == f && m.to == t
 | [],ls,h,_,_=>⟨trivial,h,fun f t=>by simp [sendF]⟩
 | m :: r,ls,h,hm,hl=>by
   obtain ⟨a,b⟩:=hm m (by simp)
   have h0:=hl m.fr m.to
   simp only [List.length_cons] at h0
   obtain ⟨k1,k2,k3⟩:=snd_ok h a b (by omega)
   obtain ⟨j1,j2,j3⟩:=send_ok (ms:=r) k2 (fun x hx=>hm x (by simp [hx])) (fun f t=>by
     have:=hl f t
     rw [k3,List.length_append]
     have h2 : ([m].filter fun m=>m.fr == f && m.to == t).length ≤ 1:=List.length_filter_le _ _
     simp only [List.length_cons] at this
     omega)
   have hl9:=h.len
   refine ⟨⟨by omega,h.okK,k1,j1⟩,j2,fun f t=>?_⟩
   rw [sendF,j3,k3,List.append_assoc, ← List.filter_append]
   rfl
theorem dlv_none {ls : List Lk} (h : NtOK ls) {f t : Int} (hq : Qn ls f t = []) : (dlvN ls f t).2.2 ≠ 0 := by
 unfold dlvN
 rw [if_neg (by simp [h.valid]),fndK_eq h,hq]
 show (6 : Int) ≠ 0
 decide
theorem dlv_some {ls : List Lk} (h : NtOK ls) {f t : Int} {m : Msg} {r : List Msg} (hq : Qn ls f t = m :: r) : ∃ L,dlvN ls f t = (m,L,0) ∧ NtOK L ∧ ∀ f' t',Qn L f' t' = if f' = f ∧ t' = t then r else Qn ls f' t' := by
 have hm:=fun x (hx : x ∈ m :: r)=>Qn_mem h (f:=f) (t:=t) (m:=x) (by rw [hq]; exact hx)
 have hl:=Qn_len h f t
 rw [hq,List.length_cons] at hl
 obtain ⟨k1,k2⟩:=putK_ok h (hm m (by simp)).2.2.1 (hm m (by simp)).2.2.2 (q:=r) (by omega) (fun x hx=>by
   have:=hm x (by simp [hx])
   exact ⟨this.1,this.2.1⟩)
 refine ⟨_, ?_,k1,k2⟩
 unfold dlvN
 rw [if_neg (by simp [h.valid]),fndK_eq h,hq]
 rfl
end
end Go.Abs.Np
