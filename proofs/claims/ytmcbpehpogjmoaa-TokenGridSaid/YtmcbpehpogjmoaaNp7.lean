/- The reference of directories: valid ones, and finding. Conditions: none. -/
import Derived.Test.YtmcbpehpogjmoaaNp5
import Derived.Test.YtmcbpehpogjmoaaAb9
namespace Go.Abs.Np
open Go Go.Proofs Go.Abs
set_option maxRecDepth 100000
set_option maxHeartbeats 4000000
set_option linter.unusedSimpArgs false
set_option linter.unusedVariables false
section
attribute [local simp] instA slice3A slice3C
attribute [-simp] mkv
attribute [local simp] mkv_hd hdA_cons hdA_ob hdA_ob'
noncomputable def rvd_specs : NL Spec := [(79,⟨1,enS fineB⟩),(63,⟨1,boS okN⟩)]
theorem rvd_specs_ok : ∀ p ∈ rvd_specs,FnC Try.prog p.1 p.2.fn := by
 simp only [rvd_specs,List.mem_cons,List.not_mem_nil,or_false]
 rintro p (rfl | rfl)
 · exact rent_ok
 · exact rnode_ok
attribute [local simp] rvd_specs
theorem rvd_ok : FnC Try.prog 62 vdS := by
 refine FnC.walk 62 (fn:=Try.f62) Try.func62 rfl (by kernel_rfl) fun d=>?_
 obtain ⟨nd,l,hl,he⟩:=d
 have cn:=boS_eq okN nd
 change W _ (Ret _ _ (.bool (validD nd l)) []) _ _ ⟨36,[(0, .agg [.int .i64 nd, .list 41 (l.map enC)])],[]⟩
 have cap : l.length ≤ 9223372036854775807:=by omega
 repeat' (first | intro (hb : _ = _) | refine ZV ?_ | refine ZB tm rvd_specs_ok ?_ | refine ZH ?_ ?_ | refine ZJ (by conv=>lhs; simp [cap]) ?_ | refine ZA ?_ ?_)
 refine W.loop rfl (ι:={ q : Nat × NL ABlk // q.1 ≤ l.length ∧ (∀ j,j < q.1 → goodD l j = true) ∧ lk q.2 32 = some { gen:=1,kind:=2,elem:=27,size:=2,inl:=false,rows:=[[.int .i64 nd, .list 41 (l.map enC)]] } })
   (fun q=>⟨36,[(1, .ptr 32 1 0 0),(6, .list 41 (l.map enC)),(7, .int .i64 l.length),(8, .int .i64 (q.1.1 : Nat))],q.1.2⟩) (fun q=>l.length - q.1.1)
   ⟨(0,_),by simp,fun j hj=>absurd hj (by simp),rfl⟩ (AS.le_of rfl ⟨rfl,rfl,rfl,rfl,trivial⟩ (fun _=>rfl)) ?_
 rintro ⟨⟨k,h⟩,hk,hg,h1⟩
 dsimp only at hk hg h1 ⊢
 by_cases hk2 : k = l.length
 · subst hk2
   rw [validD_yes hg]
   repeat' (first | intro (hb : _ = _) | refine ZV ?_ | refine ZB tm rvd_specs_ok ?_ | refine ZH ?_ ?_ | refine ZJ (by conv=>lhs; simp [h1,cn]) ?_ | refine ZA ?_ ?_)
   all_goals (first | refine Yd ?_ | refine Ye ?_)
   all_goals (first | rfl | (simp; done) | (simp_all; done) | (simp_all; omega))
 · have hlt : k < l.length:=by omega
   obtain ⟨t,hr⟩:=get_lt hlt
   have hm : (l.map enC)[k]? = some (enC t):=by rw [List.getElem?_map,hr]; rfl
   have q1 : (k : Int) < l.length:=by omega
   have q2 : ¬ l.length ≤ k:=by omega
   have hw : IntKind.i64.wrap ((k : Int) + 1) = ((k + 1 : Nat) : Int):=w64 (by omega) (by omega)
   have cf:=enS_eq fineB t (he t (List.mem_of_getElem? hr))
   simp only [enC] at cf hm
   cases hf : fineB t with
   | false =>
     rw [hf] at cf
     rw [validD_no hlt (by simp [goodD,hr,hf])]
     repeat' (first | intro (hb : _ = _) | refine ZV ?_ | refine ZB tm rvd_specs_ok ?_ | refine ZH ?_ ?_ | refine ZJ (by conv=>lhs; simp [q1,q2,hm,h1,cf]) ?_ | refine ZA ?_ ?_)
     all_goals (first | refine Yd ?_ | refine Ye ?_)
     all_goals (first | rfl | (simp; done) | (simp_all; done) | (simp_all; omega))
   | true =>
     rw [hf] at cf
     by_cases hz : k = 0
     · have hgk : goodD l k = true:=by subst hz; simp [goodD,hr,hf]
       have hgn : ∀ j,j < k + 1 → goodD l j = true:=fun j hj=>by
         have h0 : j = k:=by omega
         subst h0
         exact hgk
       have q5 : ¬ (0 : Int) < (k : Int):=by omega
       have q6 : ¬ 0 < k:=by omega
       clear hz
       repeat' (first | intro (hb : _ = _) | refine ZV ?_ | refine ZB tm rvd_specs_ok ?_ | refine ZH ?_ ?_ | refine ZJ (by conv=>lhs; simp [q1,q2,q5,q6,hm,h1,cf,hw]) ?_ | refine ZA ?_ ?_)
       exact ⟨⟨(k + 1,_),hlt,hgn,by simp [lk_st,h1]⟩,by dsimp only; omega,AS.le_of rfl ⟨rfl,rfl,rfl,rfl,trivial⟩ (fun _=>rfl)⟩
     · obtain ⟨j,hj⟩ : ∃ j,k = j + 1:=⟨k - 1,by omega⟩
       obtain ⟨s,hs⟩:=get_lt (l:=l) (i:=j) (by omega)
       have hms : (l.map enC)[j]? = some (enC s):=by rw [List.getElem?_map,hs]; rfl
       simp only [enC] at hms
       have q3 : ¬ l.length ≤ j:=by omega
       have q4 : (0 : Int) < (k : Int):=by omega
       have q4' : 0 < k:=by omega
       have hd : IntKind.i64.wrap ((k : Int) - 1) = (j : Int):=by rw [w64 (by omega) (by omega)]; omega
       have q1' : (j : Int) < l.length:=by omega
       by_cases hc : s.id < t.id
       · have hgk : goodD l k = true:=by subst hj; simp [goodD,hr,hf,hs,hc]
         have hc2 : ¬ t.id ≤ s.id:=by omega
         have hgn : ∀ i,i < k + 1 → goodD l i = true:=fun i hi=>by
           by_cases e : i = k
           · subst e
             exact hgk
           · exact hg i (by omega)
         repeat' (first | intro (hb : _ = _) | refine ZV ?_ | refine ZB tm rvd_specs_ok ?_ | refine ZH ?_ ?_ | refine ZJ (by conv=>lhs; simp [q1,q1',q2,q3,q4,q4',hm,hms,h1,cf,hw,hd,hc2]) ?_ | refine ZA ?_ ?_)
         exact ⟨⟨(k + 1,_),hlt,hgn,by simp [lk_st,h1]⟩,by dsimp only; omega,AS.le_of rfl ⟨rfl,rfl,rfl,rfl,trivial⟩ (fun _=>rfl)⟩
       · rw [validD_no hlt (by subst hj; simp [goodD,hr,hf,hs,hc])]
         have hc2 : t.id ≤ s.id:=by omega
         repeat' (first | intro (hb : _ = _) | refine ZV ?_ | refine ZB tm rvd_specs_ok ?_ | refine ZH ?_ ?_ | refine ZJ (by conv=>lhs; simp [q1,q1',q2,q3,q4,q4',hm,hms,h1,cf,hw,hd,hc2]) ?_ | refine ZA ?_ ?_)
         all_goals (first | refine Yd ?_ | refine Ye ?_)
         all_goals (first | rfl | (simp; done) | (simp_all; done) | (simp_all; omega))
noncomputable def rfnS : SpecFn := mkS (fun d : Drs × Int => [d.1.v, .int .u64 d.2]) fun d => (.agg (enC (fndD d.2 d.1.ents)),[])
theorem rfnS_eq (d : Drs) (id : Int) : rfnS [d.v, .int .u64 id] [] = some (.agg (enC (fndD id d.ents)),[]) :=
 mkS_eq (enc:=fun d : Drs × Int=>[d.1.v,AV.int .u64 d.2]) (res:=fun d=>(.agg (enC (fndD d.2 d.1.ents)),[])) (fun x y h=>by
   obtain ⟨a,b⟩:=x
   obtain ⟨a',b'⟩:=y
   simp only [List.cons.injEq,AV.int.injEq,true_and,and_true] at h
   cases Drs.v_inj h.1
   cases h.2
   rfl) (d,id)
theorem enC_nrmR (e : En) : nrmR Try.prog [128] (.agg (enC e)) = .agg (enC e) := by
 simp only [nrmR,nrmV]
 rw [enC_nrm]
theorem cAsk : Try.prog.cellsOf 132 = 2 := by kernel_rfl
theorem enC_nrm0 (id ow : Int) : nrmR Try.prog [128] (.agg (.int .u64 id :: .int .i64 ow :: .nils :: (zO ++ [.nils, .nils]))) = .agg (enC ⟨id,ow,[],zOb,[],[]⟩) := by
 simp only [nrmR,nrmV,enC,enLeafs,nrmL,uI]
 rw [nrmL_append _ _ _ _ (by rw [obLeafs]; rfl),zN_eq]
 simp [nrmL,nrmV,zOb,uI,uA,cI,cE,cAsk]
noncomputable def rfn_specs : NL Spec := [(80,⟨1,spS⟩),(63,⟨1,boS okN⟩)]
theorem rfn_specs_ok : ∀ p ∈ rfn_specs,FnC Try.prog p.1 p.2.fn := by
 simp only [rfn_specs,List.mem_cons,List.not_mem_nil,or_false]
 rintro p (rfl | rfl)
 · exact sp_ref
 · exact rnode_ok
attribute [local simp] rfn_specs
theorem find_take {l : List En} {id : Int} : ∀ {k : Nat} {e : En},l[k]? = some e → (∀ x ∈ l.take k,(x.id == id) = false) → (e.id == id) = true → l.find? (fun e => e.id == id) = some e := by
 induction l with
 | nil=>intro k e h; simp at h
 | cons x r ih =>
   intro k e h h1 h2
   cases k with
   | zero =>
     simp only [List.getElem?_cons_zero,Option.some.injEq] at h
     subst h
     simp [List.find?_cons,h2]
   | succ k =>
     simp only [List.getElem?_cons_succ] at h
     have:=h1 x (by simp)
     rw [List.find?_cons,this]
     exact ih h (fun y hy=>h1 y (by simp [hy])) h2
def zE : List AV := .int .u64 0 :: .int .i64 0 :: .nils :: (zO ++ [.nils, .nils])
theorem rfn_ok : FnC Try.prog 64 rfnS := by
 refine FnC.walkN 64 (fn:=Try.f64) [128] Try.func64 rfl (by kernel_rfl) (fun d=>?_) (fun d=>⟨_,enC_nrmR _⟩)
 obtain ⟨⟨nd,l,hl,he⟩,id⟩:=d
 change W _ (RetNf _ _ _ (.agg (enC (fndD id l))) []) _ _ ⟨37,[(0, .agg [.int .i64 nd, .list 41 (l.map enC)]),(1, .int .u64 id)],[]⟩
 have cap : l.length ≤ 9223372036854775807:=by omega
 repeat' (first | intro (hb : _ = _) | refine ZV ?_ | refine ZB tm rfn_specs_ok ?_ | refine ZH ?_ ?_ | refine ZJ (by conv=>lhs; simp [cap]) ?_ | refine ZA ?_ ?_)
 refine W.loop rfl (ι:={ q : Nat × NL ABlk // q.1 ≤ l.length ∧ (∀ x ∈ l.take q.1,(x.id == id) = false) ∧ lk q.2 80 = some { gen:=1,kind:=2,elem:=128,size:=41,inl:=false,rows:=[zE] } })
   (fun q=>⟨37,[(1, .int .u64 id),(4, .ptr 80 1 0 0),(12, .list 41 (l.map enC)),(13, .int .i64 l.length),(14, .int .i64 (q.1.1 : Nat))],q.1.2⟩) (fun q=>l.length - q.1.1)
   ⟨(0,_),by simp,by simp,by first | rfl | simp [lk_st,zE,zO]⟩ (AS.le_of rfl ⟨rfl,rfl,rfl,rfl,rfl,trivial⟩ (fun _=>rfl)) ?_
 rintro ⟨⟨k,h⟩,hk,hg,h1⟩
 dsimp only at hk hg h1 ⊢
 simp only [zE,zO,List.cons_append,List.nil_append] at h1
 by_cases hk2 : k = l.length
 · subst hk2
   rw [List.take_length] at hg
   have hf : fndD id l = ent0 id:=by
     unfold fndD
     rw [List.find?_eq_none.2 (fun x hx=>by simp [hg x hx])]
     rfl
   rw [hf]
   unfold ent0
   have c2:=spS_eq id
   have c3:=boS_eq okN (sp0 id)
   obtain ⟨w,hw⟩ : ∃ w,ow0 id = w:=⟨_,rfl⟩
   rw [hw]
   unfold ow0 at hw
   generalize sp0 id = s0 at *
   generalize sp1 id = s1 at *
   generalize sp2 id = s2 at *
   cases ho : okN s0 with
   | true =>
     rw [ho] at c3
     rw [if_pos ho] at hw
     subst hw
     repeat' (first | intro (hb : _ = _) | refine ZV ?_ | refine ZB tm rfn_specs_ok ?_ | refine ZH ?_ ?_ | refine ZJ (by conv=>lhs; simp [h1,c2,c3]) ?_ | refine ZA ?_ ?_)
     refine Ye ?_
     exact enC_nrm0 id s0
   | false =>
     rw [ho] at c3
     rw [if_neg (by simp [ho])] at hw
     subst hw
     repeat' (first | intro (hb : _ = _) | refine ZV ?_ | refine ZB tm rfn_specs_ok ?_ | refine ZH ?_ ?_ | refine ZJ (by conv=>lhs; simp [h1,c2,c3]) ?_ | refine ZA ?_ ?_)
     refine Ye ?_
     exact enC_nrm0 id (-1)
 · have hlt : k < l.length:=by omega
   obtain ⟨e,hr⟩:=get_lt hlt
   have hm : (l.map enC)[k]? = some (enC e):=by rw [List.getElem?_map,hr]; rfl
   have q1 : (k : Int) < l.length:=by omega
   have q2 : ¬ l.length ≤ k:=by omega
   have hw : IntKind.i64.wrap ((k : Int) + 1) = ((k + 1 : Nat) : Int):=w64 (by omega) (by omega)
   simp only [enC] at hm
   cases hi : (e.id == id) with
   | true =>
     have hf : fndD id l = e:=by
       unfold fndD
       rw [find_take hr hg hi]
       rfl
     rw [hf]
     repeat' (first | intro (hb : _ = _) | refine ZV ?_ | refine ZB tm rfn_specs_ok ?_ | refine ZH ?_ ?_ | refine ZJ (by conv=>lhs; simp [q1,q2,hm,hi,h1]) ?_ | refine ZA ?_ ?_)
     refine Ye ?_
     exact enC_nrmR e
   | false =>
     have hg2 : ∀ x ∈ l.take (k + 1),(x.id == id) = false:=fun x hx=>by
       rw [List.take_add_one,hr] at hx
       simp only [Option.toList_some,List.mem_append,List.mem_singleton] at hx
       rcases hx with hx | rfl
       · exact hg x hx
       · exact hi
     repeat' (first | intro (hb : _ = _) | refine ZV ?_ | refine ZB tm rfn_specs_ok ?_ | refine ZH ?_ ?_ | refine ZJ (by conv=>lhs; simp [q1,q2,hm,hi,hw]) ?_ | refine ZA ?_ ?_)
     exact ⟨⟨(k + 1,_),hlt,hg2,by simp [lk_st,h1,zE,zO]⟩,by dsimp only; omega,AS.le_of rfl ⟨rfl,rfl,rfl,rfl,rfl,trivial⟩ (fun _=>rfl)⟩
end
section
def AscE (l : List En) : Prop := l.Pairwise (fun a b => a.id < b.id)
theorem validD_ascE {nd : Int} {l : List En} (h : validD nd l = true) : AscE l := by
 have adj : ∀ k (hk : k + 1 < l.length),(l[k]'(by omega)).id < l[k + 1].id:=fun k hk=>by
   unfold validD at h
   rw [Bool.and_eq_true,List.all_eq_true] at h
   have:=h.1 (k + 1) (List.mem_range.2 hk)
   unfold goodD at this
   rw [List.getElem?_eq_getElem hk] at this
   simp only [List.getElem?_eq_getElem (show k < l.length by omega),Bool.and_eq_true,decide_eq_true_eq] at this
   exact this.2
 rw [AscE,List.pairwise_iff_getElem]
 intro i j hi hj hij
 induction j with
 | zero=>omega
 | succ j ih =>
   by_cases e : i = j
   · subst e; exact adj i hj
   · have:=ih (by omega) (by omega)
     have:=adj j hj
     omega
theorem validD_node {nd : Int} {l : List En} (h : validD nd l = true) : okN nd = true := by
 unfold validD at h
 rw [Bool.and_eq_true] at h
 exact h.2
theorem validD_of {nd : Int} {l : List En} (h1 : AscE l) (h2 : ∀ e ∈ l,fineB e = true) (h3 : okN nd = true) : validD nd l = true := by
 rw [validD_yes,h3]
 intro k hk
 unfold goodD
 rw [List.getElem?_eq_getElem hk]
 simp only [h2 _ (List.getElem_mem hk),Bool.true_and]
 cases k with
 | zero=>rfl
 | succ i =>
   simp only [List.getElem?_eq_getElem (show i < l.length by omega),decide_eq_true_eq]
   exact List.pairwise_iff_getElem.1 h1 i (i + 1) (by omega) hk (by omega)
theorem bsF_spc {c : Nat → Bool} (mono : ∀ j k,j ≤ k → c k = true → c j = true) : ∀ (d lo hi : Nat),hi - lo = d → lo ≤ hi → ∀ k,lo ≤ k → k < hi → (c k = true ↔ k < bsF c lo hi) := by
 intro d
 induction d using Nat.strongRecOn with
 | ind d ih =>
   intro lo hi hd hl k hk1 hk2
   rw [bsF_lt (show lo < hi by omega)]
   cases hc : c ((lo + hi) / 2) with
   | true =>
     rw [if_pos rfl]
     by_cases h : k ≤ (lo + hi) / 2
     · have hb:=(bsF_bd c _ ((lo + hi) / 2 + 1) hi rfl (by omega)).1
       exact ⟨fun _=>by omega,fun _=>mono _ _ h hc⟩
     · exact ih (hi - ((lo + hi) / 2 + 1)) (by omega) ((lo + hi) / 2 + 1) hi rfl (by omega) k (by omega) hk2
   | false =>
     rw [if_neg (by simp)]
     by_cases h : k < (lo + hi) / 2
     · exact ih ((lo + hi) / 2 - lo) (by omega) lo ((lo + hi) / 2) rfl (by omega) k hk1 h
     · have hb:=(bsF_bd c _ lo ((lo + hi) / 2) rfl (by omega)).2
       refine ⟨fun h1=>?_,fun _=>by omega⟩
       rw [mono _ _ (by omega) h1] at hc
       cases hc
theorem bsD_spec {l : List En} {id : Int} (h : AscE l) (k : Nat) (hk : k < l.length) : l[k].id < id ↔ k < bsD l id := by
 have:=bsF_spc (c:=fun k=>match l[k]? with | some t=>decide (t.id < id) | none=>false) (fun i j hij hc=>by
   cases hj : l[j]? with
   | none=>rw [hj] at hc; cases hc
   | some t =>
     rw [hj] at hc
     obtain ⟨h1,rfl⟩:=List.getElem?_eq_some_iff.1 hj
     simp only [decide_eq_true_eq] at hc
     rw [List.getElem?_eq_getElem (show i < l.length by omega)]
     simp only [decide_eq_true_eq]
     by_cases e : i = j
     · subst e; exact hc
     · have:=List.pairwise_iff_getElem.1 h i j (by omega) h1 (by omega)
       omega) _ 0 l.length rfl (by omega) k (by omega) hk
 simp only [List.getElem?_eq_getElem hk,decide_eq_true_eq] at this
 exact this
def oths (x : En) (l : List En) : List En := l.filter (fun e => e.id != x.id)
def putG (x : En) : List En → List En
 | []=>[x]
 | e :: r=>if x.id ≤ e.id then x :: oths x (e :: r) else e :: putG x r
theorem part (x : En) {l : List En} (h : AscE l) : ∃ L R,l = L ++ R ∧ (∀ e ∈ L,e.id < x.id) ∧ (∀ e ∈ R,x.id ≤ e.id) ∧ L.length = bsD l x.id := by
 have hb:=bsD_le l x.id
 refine ⟨l.take (bsD l x.id),l.drop (bsD l x.id),(List.take_append_drop _ _).symm,fun e he=>?_,fun e he=>?_,by simp; omega⟩
 · obtain ⟨i,hi,rfl⟩:=List.mem_iff_getElem.1 he
   rw [List.length_take] at hi
   rw [List.getElem_take]
   exact (bsD_spec h i (by omega)).2 (by omega)
 · obtain ⟨i,hi,rfl⟩:=List.mem_iff_getElem.1 he
   rw [List.length_drop] at hi
   rw [List.getElem_drop]
   have:=bsD_spec (id:=x.id) h (bsD l x.id + i) (by omega)
   omega
theorem putG_part (x : En) : ∀ {L R : List En},(∀ e ∈ L,e.id < x.id) → (∀ e ∈ R,x.id ≤ e.id) → putG x (L ++ R) = L ++ x :: oths x R
 | [],[],_,_=>rfl
 | [],e :: r,_,h=>by rw [List.nil_append,putG,if_pos (h e (by simp))]; rfl
 | a :: L,R,h1,h2=>by
   have:=h1 a (by simp)
   rw [List.cons_append,putG,if_neg (by omega),putG_part x (fun e he=>h1 e (by simp [he])) h2]
   rfl
theorem putG_putD {x : En} {l : List En} (h : AscE l) : putG x l = putD x l := by
 obtain ⟨L,R,hl,h1,h2,h3⟩:=part x h
 rw [putD, ← h3]
 rw [hl] at h ⊢
 rw [putG_part x h1 h2]
 unfold hasD
 cases R with
 | nil=>simp [oths]
 | cons e r =>
   have he:=h2 e (by simp)
   have hr : ∀ y ∈ r,e.id < y.id:=fun y hy=>(List.pairwise_cons.1 (List.pairwise_append.1 h).2.1).1 y hy
   have ho : oths x r = r:=by
     rw [oths,List.filter_eq_self]
     intro y hy
     have:=hr y hy
     simp; omega
   rw [List.getElem?_append_right (Nat.le_refl _),Nat.sub_self]
   simp only [List.getElem?_cons_zero,List.take_left,List.drop_left]
   by_cases hx : e.id = x.id
   · rw [if_pos (by simp [hx])]
     rw [List.set_append_right _ _ (Nat.le_refl _),Nat.sub_self,List.set_cons_zero]
     have : oths x (e :: r) = oths x r:=by simp [oths,hx]
     rw [this,ho]
   · rw [if_neg (by simp [hx])]
     have : oths x (e :: r) = e :: oths x r:=by simp [oths,hx]
     rw [this,ho]
theorem fnd_put_ne {x : En} {l : List En} {j : Int} (h : AscE l) (hj : j ≠ x.id) : fndD j (putD x l) = fndD j l := by
 obtain ⟨L,R,hl,h1,h2,h3⟩:=part x h
 have h4:=putG_part x h1 h2
 rw [← hl,putG_putD h] at h4
 unfold fndD
 rw [h4,hl,List.find?_append,List.find?_append,List.find?_cons]
 have : (x.id == j) = false:=by simp; omega
 rw [this]
 have : (oths x R).find? (fun e=>e.id == j) = R.find? (fun e=>e.id == j):=by
   rw [oths,List.find?_filter]
   congr 1
   funext e
   by_cases he : e.id = j
   · simp [he,hj]
   · simp [he]
 rw [this]
theorem mem_put {x : En} {l : List En} (h : AscE l) {e : En} (he : e ∈ putD x l) : e = x ∨ e ∈ l := by
 obtain ⟨L,R,hl,h1,h2,h3⟩:=part x h
 have h4:=putG_part x h1 h2
 rw [← hl,putG_putD h] at h4
 rw [h4] at he
 rw [hl]
 simp only [oths,List.mem_append,List.mem_cons,List.mem_filter] at he ⊢
 rcases he with h | h | h
 · exact .inr (.inl h)
 · exact .inl h
 · exact .inr (.inr h.1)
theorem put_asc {x : En} {l : List En} (h : AscE l) : AscE (putD x l) := by
 obtain ⟨L,R,hl,h1,h2,h3⟩:=part x h
 have h4:=putG_part x h1 h2
 rw [← hl,putG_putD h] at h4
 rw [h4]
 unfold AscE at h ⊢
 rw [hl,List.pairwise_append] at h
 rw [List.pairwise_append,List.pairwise_cons]
 refine ⟨h.1,⟨fun e he=>?_,List.Pairwise.filter _ h.2.1⟩,fun a ha b hb=>?_⟩
 · simp only [oths,List.mem_filter] at he
   have:=h2 e he.1
   have h5 : e.id ≠ x.id:=by simpa using he.2
   omega
 · have:=h1 a ha
   rcases List.mem_cons.1 hb with rfl | hb
   · exact this
   · simp only [oths,List.mem_filter] at hb
     exact h.2.2 a ha b hb.1
theorem put_valid {nd : Int} {x : En} {l : List En} (h : validD nd l = true) (hx : fineB x = true) : validD nd (putD x l) = true :=
 validD_of (put_asc (validD_ascE h)) (fun e he=>by
   rcases mem_put (validD_ascE h) he with rfl | he
   · exact hx
   · exact validD_fine h e he) (validD_node h)
theorem wit_ins : ∀ {l : List Int} {n : Int},Dir.Asc l → wit n l = Dir.ins n (Dir.oth l n)
 | [],n,_=>rfl
 | x :: r,n,h=>by
   have h1:=List.pairwise_cons.1 h
   rw [wit]
   by_cases hx : x < n
   · have : (x != n) = true:=by simp; omega
     have ho : Dir.oth (x :: r) n = x :: Dir.oth r n:=by simp only [Dir.oth,List.filter_cons,this,if_true]
     rw [if_pos hx,ho,Dir.ins,if_pos hx,wit_ins h1.2]
   · rw [if_neg hx]
     have hr : Dir.oth r n = r:=by
       rw [Dir.oth,List.filter_eq_self]
       intro y hy
       have:=h1.1 y hy
       simp; omega
     by_cases he : x = n
     · subst he
       have ho : Dir.oth (x :: r) x = r:=by rw [Dir.oth,List.filter_cons_of_neg (by simp)]; exact hr
       rw [if_pos rfl,ho]
       cases r with
       | nil=>rfl
       | cons y r =>
         have:=h1.1 y (by simp)
         rw [Dir.ins,if_neg (by omega)]
     · have : (x != n) = true:=by simp [he]
       have ho : Dir.oth (x :: r) n = x :: r:=by
         have : Dir.oth (x :: r) n = x :: Dir.oth r n:=by simp only [Dir.oth,List.filter_cons,this,if_true]
         rw [this,hr]
       rw [if_neg he,ho,Dir.ins,if_neg hx]
structure Hn (e : En) : Prop where
 id : e.id ≠ 0
 o1 : -1 ≤ e.owner
 o2 : e.owner ≤ 127
 rd : ascN e.readers = true
 wt : ascN e.waiting = true
 ow : e.owner = -1 ∨ (e.readers = [] ∧ zO? e.obj = true)
 ob : oid e.obj = e.id ∨ zO? e.obj = true
 st : ∀ w ∈ e.waiting,w = e.owner ∨ w ∈ e.readers
 qu : ∀ p ∈ e.queue,okN p.1 = true ∧ okM p.2 = true
theorem fineB_iff {e : En} : fineB e = true ↔ Hn e ∧ (e.waiting ≠ [] ∨ e.queue = []) := by
 unfold fineB
 have c1 : (e.waiting.any (strg e)) = false ↔ ∀ w ∈ e.waiting,w = e.owner ∨ w ∈ e.readers:=by
   rw [List.any_eq_false]
   simp only [strg,Bool.and_eq_true,bne_iff_ne,ne_eq,Bool.not_eq_true',decide_eq_false_iff_not,not_and,Classical.not_not]
   exact forall_congr' fun w=>forall_congr' fun _=>⟨fun h=>(Classical.em (w = e.owner)).elim .inl (fun hw => .inr (h hw)),fun h hw=>h.resolve_left hw⟩
 have c2 : (e.queue.any oddA) = false ↔ ∀ p ∈ e.queue,okN p.1 = true ∧ okM p.2 = true:=by
   rw [List.any_eq_false]
   simp only [oddA,Bool.or_eq_true,Bool.not_eq_true',not_or,Bool.not_eq_false]
 have c3 : (decide ((0 : Int) < e.waiting.length) || (e.queue.length : Int) == 0) = true ↔ (e.waiting ≠ [] ∨ e.queue = []):=by
   rw [Bool.or_eq_true,decide_eq_true_eq,beq_iff_eq, ← List.length_pos_iff, ← List.length_eq_zero_iff]
   omega
 have c4 : ((e.readers.length : Int) == 0) = true ↔ e.readers = []:=by
   rw [beq_iff_eq, ← List.length_eq_zero_iff]
   omega
 simp only [Bool.and_eq_true,bne_iff_ne,ne_eq,decide_eq_true_eq,Bool.not_eq_true',c1,c2,c3,Bool.or_eq_true (e.owner == -1),Bool.or_eq_true (oid e.obj == e.id),beq_iff_eq (a:=e.owner),beq_iff_eq (a:=oid e.obj),c4]
 constructor
 · rintro ⟨a,b,c,d,f,g,h,i,j,k⟩
   exact ⟨⟨a,b,c,d,f,g,h,i,j⟩,k⟩
 · rintro ⟨⟨a,b,c,d,f,g,h,i,j⟩,k⟩
   exact ⟨a,b,c,d,f,g,h,i,j,k⟩
theorem okN_iff {n : Int} : okN n = true ↔ 0 ≤ n ∧ n ≤ 127 := by simp [okN]
theorem zO_zOb : zO? zOb = true := by kernel_rfl
theorem ent0_hn {id : Int} (h : id ≠ 0) : Hn (ent0 id) := by
 unfold ent0 ow0
 refine ⟨h, ?_, ?_,rfl,rfl, .inr ⟨rfl,zO_zOb⟩, .inr zO_zOb,by simp,by simp⟩
 all_goals dsimp only
 all_goals split
 all_goals first | omega | (rename_i h; have:=okN_iff.1 h; omega)
theorem fnd_hn {nd : Int} {l : List En} (h : validD nd l = true) {id : Int} (h0 : id ≠ 0) : Hn (fndD id l) := by
 unfold fndD
 cases hf : l.find? (fun e=>e.id == id) with
 | none=>exact ent0_hn h0
 | some e=>exact (fineB_iff.1 (validD_fine h e (List.mem_of_find?_eq_some hf))).1
theorem fnd_id (l : List En) (id : Int) : (fndD id l).id = id := by
 unfold fndD
 cases hf : l.find? (fun e=>e.id == id) with
 | none=>rfl
 | some e=>simpa using List.find?_some hf
end
section
attribute [local simp] instA slice3A slice3C
attribute [-simp] mkv
attribute [local simp] mkv_hd hdA_cons hdA_ob hdA_ob'
def restG (x : En) (done : Bool) (l : List En) : List En := if done then oths x l else putG x l
structure Pt where
 d : Drs
 x : En
noncomputable def rptS : SpecFn := mkS (fun p : Pt => [p.d.v, .agg (enC p.x)]) fun p => (.agg [.int .i64 p.d.node, .list 41 ((putG p.x p.d.ents).map enC)],[])
theorem rptS_eq (p : Pt) : rptS [p.d.v, .agg (enC p.x)] [] = some (.agg [.int .i64 p.d.node, .list 41 ((putG p.x p.d.ents).map enC)],[]) :=
 mkS_eq (enc:=fun p : Pt=>[p.d.v,AV.agg (enC p.x)]) (res:=fun p=>(.agg [.int .i64 p.d.node, .list 41 ((putG p.x p.d.ents).map enC)],[])) (fun x y h=>by
   obtain ⟨a,b⟩:=x
   obtain ⟨a',b'⟩:=y
   simp only [List.cons.injEq,AV.agg.injEq,and_true] at h
   cases Drs.v_inj h.1
   cases enC_inj h.2
   rfl) p
theorem drs_nrmR (n : Int) (l : List En) : nrmR Try.prog [27] (.agg [.int .i64 n, .list 41 (l.map enC)]) = .agg [.int .i64 n, .list 41 (l.map enC)] := drs_nrmV n l
structure PtI (nd : Int) (x : En) (l : List En) where
 k : Nat
 done : Bool
 T : List En
 g : Nat
 H : NL ABlk
 hk : k ≤ l.length
 hT : T.length ≤ k + done.toNat
 res : T ++ restG x done (l.drop k) = putG x l
 g3 : lk H 64 = some { gen:=1,kind:=2,elem:=128,size:=41,inl:=false,rows:=[enC x] }
 g4 : ∃ row,lk H 80 = some { gen:=1,kind:=2,elem:=27,size:=2,inl:=false,rows:=[[.int .i64 0, .nils]] } ∧ row = (0 : Nat)
 g5 : lk H 96 = some { gen:=1,kind:=2,elem:=27,size:=2,inl:=false,rows:=[[.int .i64 nd, .sl 20000 g 0 T.length]] }
 gM : lk H 20000 = some { gen:=g,kind:=2,elem:=128,size:=41,inl:=true,rows:=T.map enC }
theorem rpt_ok : FnC Try.prog 82 rptS := by
 refine FnC.walkN 82 (fn:=Try.f82) [27] Try.func82 rfl (by kernel_rfl) (fun d=>?_) (fun d=>⟨_,drs_nrmR _ _⟩)
 obtain ⟨⟨nd,l,hl,he⟩,x⟩:=d
 change W _ (RetNf _ _ _ (.agg [.int .i64 nd, .list 41 ((putG x l).map enC)]) []) _ _ ⟨55,[(0, .agg [.int .i64 nd, .list 41 (l.map enC)]),(1, .agg (enC x))],[]⟩
 have cap : l.length ≤ 9223372036854775807:=by omega
 repeat' (first | intro (hb : _ = _) | refine ZV ?_ | refine ZB (id:=0) tm no_specs ?_ | refine ZB (id:=1) tm no_specs ?_ | refine ZB (id:=2) tm no_specs ?_ | refine ZH ?_ ?_ | refine ZJ (by conv=>lhs; simp [cap]) ?_ | refine ZA ?_ ?_)
 refine W.phR 96 0 1 20000 128 41 true rfl rfl rfl rfl rfl rfl (by decide) ?_
 repeat' (first | intro (hb : _ = _) | refine ZV ?_ | refine ZB tm no_specs ?_ | refine ZH ?_ ?_ | refine ZJ (by conv=>lhs; simp [cap]) ?_ | refine ZA ?_ ?_)
 refine W.loop rfl (ι:=PtI nd x l)
   (fun q=>⟨55,[(3, .ptr 64 1 0 0),(4, .ptr 80 1 0 0),(5, .ptr 96 1 0 0),(6, .bool q.done),(13, .list 41 (l.map enC)),(14, .int .i64 l.length),(15, .int .i64 (q.k : Nat))],q.H⟩) (fun q=>l.length - q.k)
   ⟨0,false,[],0,_,by simp,by simp,by simp [restG],by simp [lk_st],⟨0,by simp [lk_st],rfl⟩,by simp [lk_st],by simp [lk_st]⟩ (AS.le_of rfl ⟨rfl,rfl,rfl,rfl,rfl,rfl,rfl,trivial⟩ (fun _=>rfl)) ?_
 rintro ⟨k,dn,T,g,H,hk,hT,res,g3,⟨_,g4,_⟩,g5,gM⟩
 dsimp only at hk hT res g3 g4 g5 gM ⊢
 simp only [enC] at g3
 have hdn : dn.toNat ≤ 1:=Bool.toNat_le dn
 have y1 : T.length ≤ maxLen:=by simp only [maxLen]; omega
 have y2 : (T.length + 1) * 552 ≤ 140737488355328:=by omega
 have y4 : T.length + 1 ≤ maxLen:=by simp only [maxLen]; omega
 have fT : firstRows T.length (T.map enC) = T.map enC:=first_all (by simp)
 by_cases hk2 : k = l.length
 · subst hk2
   rw [List.drop_length] at res
   cases dn with
   | true =>
     have : putG x l = T:=by rw [← res]; simp [restG,oths]
     rw [this]
     have tT : List.take T.length (T.map enC) = T.map enC:=List.take_of_length_le (by simp)
     repeat' (first | intro (hb : _ = _) | refine ZV ?_ | refine ZB tm no_specs ?_ | refine ZH ?_ ?_ | refine ZJ (by conv=>lhs; simp [g3,g4,g5,gM]) ?_ | refine ZA ?_ ?_)
     refine RetNf.dataE rfl (by conv=>lhs; simp) (by conv=>lhs; simp [frqT,frqV,frqL,frq1,frz1,AP.run,gM,tT]) (by first | rfl | simp [inlT,inlV]) ?_
     exact drs_nrmR nd T
   | false =>
     obtain ⟨T2,hT2⟩ : ∃ T2,T ++ [x] = T2:=⟨_,rfl⟩
     have : putG x l = T2:=by rw [← res, ← hT2]; simp [restG,putG]
     rw [this]
     have hl2 : T2.length = T.length + 1:=by rw [← hT2]; simp
     have hrow : T.map enC ++ [enC x] = T2.map enC:=by rw [← hT2]; simp
     simp only [enC] at hrow
     have tT : List.take (T.length + 1) (T2.map enC) = T2.map enC:=List.take_of_length_le (by simp; omega)
     clear hdn
     repeat' (first | intro (hb : _ = _) | refine ZV ?_ | refine ZB tm no_specs ?_ | refine ZH ?_ ?_ | refine ZJ (by conv=>lhs; simp [g3,g4,g5,gM,y1,y2,y4,fT,hrow,m1]) ?_ | refine ZA ?_ ?_)
     refine RetNf.dataE rfl (by conv=>lhs; simp) (by conv=>lhs; simp [frqT,frqV,frqL,frq1,frz1,AP.run,gM,tT,hl2]) (by first | rfl | simp [inlT,inlV]) ?_
     exact drs_nrmR nd T2
 · have hlt : k < l.length:=by omega
   obtain ⟨e,hr⟩:=get_lt hlt
   have hm : (l.map enC)[k]? = some (enC e):=by rw [List.getElem?_map,hr]; rfl
   have hd : l.drop k = e :: l.drop (k + 1):=by
     obtain ⟨h1,h2⟩:=List.getElem?_eq_some_iff.1 hr
     rw [List.drop_eq_getElem_cons h1,h2]
   rw [hd] at res
   have q1 : (k : Int) < l.length:=by omega
   have q2 : ¬ l.length ≤ k:=by omega
   have hw : IntKind.i64.wrap ((k : Int) + 1) = ((k + 1 : Nat) : Int):=w64 (by omega) (by omega)
   simp only [enC] at hm
   have hrowE : T.map enC ++ [enC e] = (T ++ [e]).map enC:=by simp
   simp only [enC] at hrowE
   have hlE : (T ++ [e]).length = T.length + 1:=by simp
   have q3 : (k : Int) < l.length:=q1
   obtain ⟨tl,htl⟩ : ∃ tl,l.drop (k + 1) = tl:=⟨_,rfl⟩
   rw [htl] at res
   clear hd hlE hrowE
   repeat' (first | intro (hb : _ = _) | refine ZV ?_ | refine ZB (id:=4) tm no_specs ?_ | refine ZB (id:=5) tm no_specs ?_ | refine ZH ?_ ?_ | refine ZJ (by conv=>lhs; simp [q1,q2,hm]) ?_ | refine ZA ?_ ?_)
   refine W.cutT (fun σ' => ∃ (d2 : Bool) (T2 : List En) (g2 G : Nat) (H2 : NL ABlk),T2.length ≤ k + d2.toNat ∧ T2 ++ ((if e.id = x.id then [] else [e]) ++ restG x d2 tl) = putG x l ∧ lk H2 64 = some { gen:=1,kind:=2,elem:=128,size:=41,inl:=false,rows:=[enC x] } ∧ lk H2 80 = some { gen:=1,kind:=2,elem:=27,size:=2,inl:=false,rows:=[[.int .i64 0, .nils]] } ∧ lk H2 96 = some { gen:=1,kind:=2,elem:=27,size:=2,inl:=false,rows:=[[.int .i64 nd, .sl 20000 g2 0 T2.length]] } ∧ lk H2 20000 = some { gen:=g2,kind:=2,elem:=128,size:=41,inl:=true,rows:=T2.map enC } ∧ lk H2 144 = some { gen:=G,kind:=2,elem:=128,size:=41,inl:=false,rows:=[enC e] } ∧ AS.le ⟨55,[(3, .ptr 64 1 0 0),(4, .ptr 80 1 0 0),(5, .ptr 96 1 0 0),(6, .bool d2),(8, .ptr 144 G 0 0),(13, .list 41 (l.map enC)),(14, .int .i64 l.length),(15, .int .i64 (k : Nat))],H2⟩ σ') ?_ ?_
   · cases dn with
     | true =>
       have r1 : T ++ ((if e.id = x.id then [] else [e]) ++ restG x true tl) = putG x l:=by
         rw [← res]
         simp only [restG,if_true]
         congr 1
         by_cases hne : e.id = x.id
         · rw [if_pos hne]; simp [oths,hne]
         · rw [if_neg hne]; simp [oths,hne]
       repeat' (first | intro (hb : _ = _) | refine ZV ?_ | refine ZB tm no_specs ?_ | refine ZH ?_ ?_ | refine ZJ (by conv=>lhs; simp [g3,g4,g5,gM]) ?_ | refine ZA ?_ ?_)
       exact ⟨true,T,g,_,_,hT,r1,by simp [lk_st,g3,enC],by simp [lk_st,g4],by simp [lk_st,g5],by simp [lk_st,gM],by simp [lk_st,enC],AS.le_of rfl ⟨rfl,rfl,rfl,rfl,rfl,rfl,rfl,rfl,trivial⟩ (fun _=>rfl)⟩
     | false =>
       simp only [restG,Bool.false_eq_true,if_false] at res
       by_cases n2 : x.id ≤ e.id
       · have hrow : T.map enC ++ [enC x] = (T ++ [x]).map enC:=by simp
         simp only [enC] at hrow
         have hl2 : (T ++ [x]).length = T.length + 1:=by simp
         have r1 : (T ++ [x]) ++ ((if e.id = x.id then [] else [e]) ++ restG x true tl) = putG x l:=by
           rw [← res,putG,if_pos n2]
           simp only [restG,if_true,List.append_assoc,List.cons_append,List.nil_append]
           congr 2
           by_cases hne : e.id = x.id
           · rw [if_pos hne]; simp [oths,hne]
           · rw [if_neg hne]; simp [oths,hne]
         generalize T ++ [x] = T2 at *
         have r2 : T2.length ≤ k + (true : Bool).toNat:=by simp only [Bool.toNat_true,Bool.toNat_false] at hT ⊢; omega
         clear hdn
         repeat' (first | intro (hb : _ = _) | refine ZV ?_ | refine ZB tm no_specs ?_ | refine ZH ?_ ?_ | refine ZJ (by conv=>lhs; simp [n2,g3,g4,g5,gM,y1,y2,y4,fT,hrow,m1]) ?_ | refine ZA ?_ ?_)
         exact ⟨true,T2,g + 1,_,_,r2,r1,by simp [lk_st,g3,enC],by simp [lk_st,g4],by simp [lk_st,hl2],by simp [lk_st],by simp [lk_st,enC],AS.le_of rfl ⟨rfl,rfl,rfl,rfl,rfl,rfl,rfl,rfl,trivial⟩ (fun _=>rfl)⟩
       · have r1 : T ++ ((if e.id = x.id then [] else [e]) ++ restG x false tl) = putG x l:=by
           have hne : e.id ≠ x.id:=by omega
           rw [← res,putG,if_neg n2,if_neg hne]
           simp [restG]
         clear hdn
         repeat' (first | intro (hb : _ = _) | refine ZV ?_ | refine ZB tm no_specs ?_ | refine ZH ?_ ?_ | refine ZJ (by conv=>lhs; simp [n2,g3,g4,g5,gM]) ?_ | refine ZA ?_ ?_)
         exact ⟨false,T,g,_,_,hT,r1,by simp [lk_st,g3,enC],by simp [lk_st,g4],by simp [lk_st,g5],by simp [lk_st,gM],by simp [lk_st,enC],AS.le_of rfl ⟨rfl,rfl,rfl,rfl,rfl,rfl,rfl,rfl,trivial⟩ (fun _=>rfl)⟩
   · clear y1 y2 y4 fT g3 g4 g5 gM hT res hdn
     rintro σ' ⟨d2,T,g,G,H,hT,res,g3,g4,g5,gM,g8,hle⟩
     refine W.weak hle ?_
     clear hle
     have hdn : d2.toNat ≤ 1:=Bool.toNat_le d2
     have y1 : T.length ≤ maxLen:=by simp only [maxLen]; omega
     have y2 : (T.length + 1) * 552 ≤ 140737488355328:=by omega
     have y4 : T.length + 1 ≤ maxLen:=by simp only [maxLen]; omega
     have fT : firstRows T.length (T.map enC) = T.map enC:=first_all (by simp)
     subst htl
     simp only [enC] at g3 g8
     by_cases hne : e.id = x.id
     · have n1 : (e.id != x.id) = false:=by simp [hne]
       rw [if_pos hne] at res
       repeat' (first | intro (hb : _ = _) | refine ZV ?_ | refine ZB tm no_specs ?_ | refine ZH ?_ ?_ | refine ZJ (by conv=>lhs; simp [n1,hw,g3,g4,g5,gM,g8]) ?_ | refine ZA ?_ ?_)
       exact ⟨⟨k + 1,d2,T,g,_,hlt,by omega,res,by simp [lk_st,g3,enC],⟨0,by simp [lk_st,g4],rfl⟩,by simp [lk_st,g5],by simp [lk_st,gM]⟩,by dsimp only; omega,AS.le_of rfl ⟨rfl,rfl,rfl,rfl,rfl,rfl,rfl,trivial⟩ (fun _=>rfl)⟩
     · have n1 : (e.id != x.id) = true:=by simp [hne]
       rw [if_neg hne] at res
       have hrow : T.map enC ++ [enC e] = (T ++ [e]).map enC:=by simp
       simp only [enC] at hrow
       have hl2 : (T ++ [e]).length = T.length + 1:=by simp
       have r1 : (T ++ [e]) ++ restG x d2 (l.drop (k + 1)) = putG x l:=by rw [← res]; simp
       generalize T ++ [e] = T2 at *
       have r2 : T2.length ≤ k + 1 + d2.toNat:=by omega
       clear hdn
       repeat' (first | intro (hb : _ = _) | refine ZV ?_ | refine ZB tm no_specs ?_ | refine ZH ?_ ?_ | refine ZJ (by conv=>lhs; simp [n1,hw,g3,g4,g5,gM,g8,y1,y2,y4,fT,hrow,m1]) ?_ | refine ZA ?_ ?_)
       exact ⟨⟨k + 1,d2,T2,g + 1,_,hlt,r2,r1,by simp [lk_st,g3,enC],⟨0,by simp [lk_st,g4],rfl⟩,by simp [lk_st,hl2],by simp [lk_st]⟩,by dsimp only; omega,AS.le_of rfl ⟨rfl,rfl,rfl,rfl,rfl,rfl,rfl,trivial⟩ (fun _=>rfl)⟩
end
section
attribute [local simp] instA slice3A slice3C
attribute [-simp] mkv
attribute [local simp] mkv_hd hdA_cons hdA_ob hdA_ob'
theorem W.cutSB {P : Program} {Q : AS → Prop} {a x y : Code} {fs : List Fr} {σ : AS} {i : Nat} (M : AS → Prop) (h1 : W P Q a (.seq x :: .blk i :: .loop M :: fs) σ) (h2 : ∀ σ',M σ' → W P Q y fs σ') : W P Q a (.seq x :: .blk i :: .seq y :: fs) σ := by
 have key : ∀ e σ,post P Q (.blk i :: .loop M :: fs) e σ → post P Q (.blk i :: .seq y :: fs) e σ:=fun e σ h=>by
   cases e with
   | normal=>exact (h2 σ h).h
   | exit j =>
     have h : (if j = i then post P Q (.loop M :: fs) .normal σ else post P Q (.loop M :: fs) (.exit j) σ):=h
     show (if j = i then post P Q (.seq y :: fs) .normal σ else post P Q (.seq y :: fs) (.exit j) σ)
     split at h
     · rw [if_pos ‹_›]; exact (h2 σ h).h
     · rw [if_neg ‹_›]; exact h
   | _=>exact h
 refine ⟨h1.h.mono fun e σ h=>?_⟩
 cases e with
 | normal=>exact WP.mono h fun e σ h=>key e σ h
 | exit i=>exact key (.exit i) σ h
 | goto i=>exact key (.goto i) σ h
 | ret=>exact key .ret σ h
 | panic c=>exact key (.panic c) σ h
 | outgrown=>exact key .outgrown σ h
structure ROn where
 d : Drs
 e : En
 h1 : e.readers.length + e.queue.length ≤ 9000
 h2 : e.waiting.length ≤ 9000
 h3 : Dir.Asc e.readers
 h4 : -1 ≤ e.owner
 h5 : ∀ p ∈ e.queue,0 ≤ p.1 ∧ (p.2 = 1 ∨ p.2 = 2)
 h6 : AscE d.ents
def rO (n : Int) (l : List En) (ms : List Msg) : AV := .tup [.agg [.int .i64 n, .list 41 (l.map enC)], .list 45 (ms.map Msg.v)]
theorem rO_nrm (n : Int) (l : List En) (ms : List Msg) : nrmR Try.prog [27,61] (rO n l ms) = rO n l ms := by
 simp only [rO,nrmR,nrmL,nrmV,drLeafs,uE,uM,nrmRows_map enC_nrm,nrmRows_map msg_nrm]
noncomputable def ronS : SpecFn := mkS (fun x : ROn => [x.d.v, .agg (enC x.e)]) fun x => (rO x.d.node (putD (Dir.goOn zOb x.e).2 x.d.ents) (goM x.e x.d.node),[])
theorem ronS_eq (x : ROn) : ronS [x.d.v, .agg (enC x.e)] [] = some (rO x.d.node (putD (Dir.goOn zOb x.e).2 x.d.ents) (goM x.e x.d.node),[]) :=
 mkS_eq (enc:=fun x : ROn=>[x.d.v,AV.agg (enC x.e)]) (res:=fun x=>(rO x.d.node (putD (Dir.goOn zOb x.e).2 x.d.ents) (goM x.e x.d.node),[])) (fun x y h=>by
   obtain ⟨a,b,_,_,_,_,_,_⟩:=x
   obtain ⟨a',b',_,_,_,_,_,_⟩:=y
   simp only [List.cons.injEq,AV.agg.injEq,and_true] at h
   cases Drs.v_inj h.1
   cases enC_inj h.2
   rfl) x
structure OnI (e0 : En) (nd : Int) (l : List En) (pd : Bool) where
 e : En
 ms : List Msg
 g : Nat
 X : AV
 Y : AV
 row : List AV
 H : NL ABlk
 id : e.id = e0.id
 h1 : e.readers.length + e.queue.length ≤ 9000
 h2 : e.waiting.length ≤ 9000
 h3 : Dir.Asc e.readers
 h4 : -1 ≤ e.owner
 h5 : ∀ p ∈ e.queue,0 ≤ p.1 ∧ (p.2 = 1 ∨ p.2 = 2)
 h7 : (pd = true ∨ e.waiting = []) → ms.length + e.queue.length ≤ 9000
 res : (Dir.goOn zOb e0).2 = (Dir.goOn zOb e).2
 msg : goM e0 nd = ms ++ ((if pd then e.waiting.map (revM nd e0.id) else []) ++ goM e nd)
 hn : nrmL Try.prog (leafs Try.prog 128) row = .int .u64 e.id :: .int .i64 e.owner :: .list 1 (e.readers.map iC) :: (e.obj.cells ++ [X,Y])
 hXY : (X = .list 1 (e.waiting.map iC) ∧ Y = .list 2 (e.queue.map askC)) ∨ (∃ g',X = .sl 1040 g' 0 e.waiting.length ∧ lk H 1040 = some { gen:=g',kind:=2,elem:=3,size:=1,inl:=true,rows:=e.waiting.map iC } ∧ Y = .list 2 (e.queue.map askC)) ∨ (∃ g',Y = .sl 912 g' 0 e.queue.length ∧ lk H 912 = some { gen:=g',kind:=2,elem:=132,size:=2,inl:=true,rows:=e.queue.map askC } ∧ X = .list 1 (e.waiting.map iC))
 b2 : lk H 48 = some { gen:=1,kind:=2,elem:=27,size:=2,inl:=false,rows:=[[.int .i64 nd, .list 41 (l.map enC)]] }
 b3 : lk H 64 = some { gen:=1,kind:=2,elem:=128,size:=41,inl:=false,rows:=[row] }
 b4 : lk H 80 = some { gen:=1,kind:=2,elem:=27,size:=2,inl:=false,rows:=[[.int .i64 0, .nils]] }
 bM : lk H 20000 = some (msgB g ms)
theorem row39 {a b c X Y : AV} (o : Ob) : (a :: b :: c :: (o.cells ++ [X,Y]))[39]? = some X := by simp
theorem row40 {a b c X Y : AV} (o : Ob) : (a :: b :: c :: (o.cells ++ [X,Y]))[40]? = some Y := by simp
theorem rset39 {a b c X Y Z : AV} (o : Ob) : (a :: b :: c :: (o.cells ++ [X,Y])).set 39 Z = a :: b :: c :: (o.cells ++ [Z,Y]) := by simp
theorem rset40 {a b c X Y Z : AV} (o : Ob) : (a :: b :: c :: (o.cells ++ [X,Y])).set 40 Z = a :: b :: c :: (o.cells ++ [X,Z]) := by simp
theorem on_head {e0 : En} {nd : Int} {l : List En} {pd : Bool} {Q : AS → Prop} {c : Code} {fs : List Fr} {ts : NL AV} (x : OnI e0 nd l pd) (hw : ∀ h',lk h' 48 = some { gen := 1,kind := 2,elem := 27,size := 2,inl := false,rows := [[.int .i64 nd, .list 41 (l.map enC)]] } → lk h' 64 = some { gen := 1,kind := 2,elem := 128,size := 41,inl := false,rows := [enC x.e] } → lk h' 80 = some { gen := 1,kind := 2,elem := 27,size := 2,inl := false,rows := [[.int .i64 0, .nils]] } → lk h' 20000 = some (msgB x.g x.ms) → W Try.prog Q c fs ⟨106,ts,h'⟩) : W Try.prog Q c fs ⟨106,ts,x.H⟩ := by
 obtain ⟨e,ms,g,X,Y,row,H,id,h1,h2,h3,h4,h5,h7,res,msg,hn,hXY,b2,b3,b4,bM⟩:=x
 dsimp only at hw ⊢
 obtain ⟨L,hL⟩ : ∃ L,leafs Try.prog 128 = L:=⟨_,rfl⟩
 rw [hL] at hn
 refine W.nrmB 64 L b3 rfl ?_
 dsimp only
 rw [List.map_cons,List.map_nil,hn]
 rcases hXY with ⟨rfl,rfl⟩ | ⟨g',rfl,hb,rfl⟩ | ⟨g',rfl,hb,rfl⟩
 · exact hw _ (by rw [lk_st,if_neg (by decide)]; exact b2) (by rw [lk_st,if_pos rfl]; rfl) (by rw [lk_st,if_neg (by decide)]; exact b4) (by rw [lk_st,if_neg (by decide)]; exact bM)
 · have tk : List.take e.waiting.length (e.waiting.map iC) = e.waiting.map iC:=List.take_of_length_le (by simp)
   refine W.frzC 64 0 39 (by rw [lk_st,if_pos rfl]) rfl rfl rfl (row39 _) (by conv=>lhs; simp [frqT,frqV,frq1,frz1,AP.run,lk_st,hb,tk]) (by rw [lk_st,if_neg (by decide),lk_st,if_pos rfl]) ?_
   dsimp only
   rw [List.set_cons_zero,rset39]
   exact hw _ (by rw [lk_st,if_neg (by decide),lk_st,if_neg (by decide),lk_st,if_neg (by decide)]; exact b2) (by rw [lk_st,if_pos rfl]; rfl) (by rw [lk_st,if_neg (by decide),lk_st,if_neg (by decide),lk_st,if_neg (by decide)]; exact b4) (by rw [lk_st,if_neg (by decide),lk_st,if_neg (by decide),lk_st,if_neg (by decide)]; exact bM)
 · have tk : List.take e.queue.length (e.queue.map askC) = e.queue.map askC:=List.take_of_length_le (by simp)
   refine W.frzC 64 0 40 (by rw [lk_st,if_pos rfl]) rfl rfl rfl (row40 _) (by conv=>lhs; simp [frqT,frqV,frq1,frz1,AP.run,lk_st,hb,tk]) (by rw [lk_st,if_neg (by decide),lk_st,if_pos rfl]) ?_
   dsimp only
   rw [List.set_cons_zero,rset40]
   exact hw _ (by rw [lk_st,if_neg (by decide),lk_st,if_neg (by decide),lk_st,if_neg (by decide)]; exact b2) (by rw [lk_st,if_pos rfl]; rfl) (by rw [lk_st,if_neg (by decide),lk_st,if_neg (by decide),lk_st,if_neg (by decide)]; exact b4) (by rw [lk_st,if_neg (by decide),lk_st,if_neg (by decide),lk_st,if_neg (by decide)]; exact bM)
theorem enC_nrm' (e : En) (X Y X' Y' : AV) (hX : nrmV Try.prog 78 X = X') (hY : nrmV Try.prog 126 Y = Y') : nrmL Try.prog (leafs Try.prog 128) (.int .u64 e.id :: .int .i64 e.owner :: .list 1 (e.readers.map iC) :: (e.obj.cells ++ [X,Y])) = .int .u64 e.id :: .int .i64 e.owner :: .list 1 (e.readers.map iC) :: (e.obj.cells ++ [X',Y']) := by
 rw [enLeafs]
 simp only [nrmL]
 rw [nrmL_append _ _ _ _ e.obj.len'.symm,e.obj.nrmL]
 have : nrmV Try.prog 78 (.list 1 (e.readers.map iC)) = .list 1 (e.readers.map iC):=rc_list _
 simp only [nrmL,hX,hY,this]
 simp only [nrmV]
theorem enC_nrmZ (id ow : Int) (X Y X' Y' : AV) (hX : nrmV Try.prog 78 X = X') (hY : nrmV Try.prog 126 Y = Y') : nrmL Try.prog (leafs Try.prog 128) (.int .u64 id :: .int .i64 ow :: .nils :: (zO ++ [X,Y])) = .int .u64 id :: .int .i64 ow :: .list 1 (([] : List Int).map iC) :: (zOb.cells ++ [X',Y']) := by
 rw [enLeafs]
 simp only [nrmL]
 rw [nrmL_append _ _ _ _ (by rw [obLeafs]; rfl),zN_eq]
 have : nrmV Try.prog 78 .nils = .list 1 []:=by simp only [nrmV,uI,cI]
 simp only [nrmL,hX,hY,this,zOb,List.map_nil]
 simp only [nrmV]
theorem ra_list (l : List (Int × Int)) : nrmV Try.prog 126 (.list 2 (l.map askC)) = .list 2 (l.map askC) := by simp only [nrmV,uA,nrmRows_map askC_nrm]
theorem ra_sl (a b c d : Nat) : nrmV Try.prog 126 (.sl a b c d) = .sl a b c d := by simp only [nrmV]
theorem goM_wait {e : En} {nd : Int} (h : e.waiting ≠ []) : goM e nd = [] := by rw [goM,go_wait h]; rfl
noncomputable def ron_specs : NL Spec := [(68,⟨1,wioS⟩),(81,⟨1,witS⟩),(82,⟨1,rptS⟩)]
theorem ron_specs_ok : ∀ p ∈ ron_specs,FnC Try.prog p.1 p.2.fn := by
 simp only [ron_specs,List.mem_cons,List.not_mem_nil,or_false]
 rintro p (rfl | rfl | rfl)
 · exact rwio_ok
 · exact rwit_ok
 · exact rpt_ok
attribute [local simp] ron_specs
def onM (e : En) : Nat := 2 * e.queue.length + (if e.waiting = [] then 1 else 0)
theorem ron_ok : FnC Try.prog 66 ronS := by
 refine FnC.walkN 66 (fn:=Try.f66) [27,61] Try.func66 rfl (by kernel_rfl) (fun x=>?_) (fun x=>⟨_,rO_nrm _ _ _⟩)
 obtain ⟨⟨nd,l,hl,he⟩,e0,k1,k2,k3,k4,k5,k6⟩:=x
 change W _ (RetNf _ _ _ (rO nd (putD (Dir.goOn zOb e0).2 l) (goM e0 nd)) []) _ _ ⟨106,[(0, .agg [.int .i64 nd, .list 41 (l.map enC)]),(1, .agg (.int .u64 e0.id :: .int .i64 e0.owner :: .list 1 (e0.readers.map iC) :: (e0.obj.cells ++ [.list 1 (e0.waiting.map iC), .list 2 (e0.queue.map askC)])))],[]⟩
 repeat' (first | intro (hb : _ = _) | refine ZV ?_ | refine ZB (id:=0) tm ron_specs_ok ?_ | refine ZB (id:=1) tm ron_specs_ok ?_ | refine ZH ?_ ?_ | refine ZJ (by conv=>lhs; simp) ?_ | refine ZA ?_ ?_)
 refine W.phantom (t:=6) 20000 75 45 true (by rfl) (by rfl) (by decide) ?_
 refine W.loop rfl (ι:=OnI e0 nd l false) (fun x=>⟨106,[(2, .ptr 48 1 0 0),(3, .ptr 64 1 0 0),(4, .ptr 80 1 0 0),(6, .sl 20000 x.g 0 x.ms.length)],x.H⟩) (fun x=>onM x.e)
   ⟨e0,[],0, .list 1 (e0.waiting.map iC), .list 2 (e0.queue.map askC),enC e0,_,rfl,k1,k2,k3,k4,k5,fun _=>by simp; omega,rfl,by simp,enC_nrm e0, .inl ⟨rfl,rfl⟩,by simp [lk_st,lk],by simp [lk_st,lk],by simp [lk_st,lk],by simp [lk_st,lk,msgB]⟩ (AS.le_of rfl ⟨rfl,rfl,rfl,rfl,trivial⟩ (fun _=>rfl)) ?_
 intro x
 refine on_head x fun h f2 f3 f4 fM=>?_
 obtain ⟨e,ms,g,X,Y,row,H,id,h1,h2,h3,h4,h5,h7,res,msg,hn,hXY,b2,b3,b4,bM⟩:=x
 dsimp only at f3 fM ⊢
 clear hn hXY b2 b3 b4 bM
 have capq : e.queue.length ≤ 9223372036854775807:=by omega
 have capw : e.waiting.length ≤ 9223372036854775807:=by omega
 simp only [enC] at f3
 simp only [Bool.false_eq_true,if_false,List.nil_append,false_or] at msg h7
 have fin : (e.waiting ≠ [] ∨ e.queue = []) → Dir.goOn zOb e = ([],e):=fun h=>by
   rcases h with h | h
   · exact go_wait h
   · exact go_nil h
 have cp:=rptS_eq ⟨⟨nd,l,hl,he⟩,e⟩
 simp only [Drs.v,enC,putG_putD k6] at cp
 have tkm : List.take ms.length (ms.map Msg.v) = ms.map Msg.v:=List.take_of_length_le (by simp)
 have gM:=fM
 unfold msgB at gM
 by_cases hw : e.waiting = []
 · by_cases hq : e.queue = []
   · have w0 : ((e.waiting.length : Int) == 0) = true:=by simp [hw]
     have w1 : ¬ (0 : Int) < e.queue.length:=by simp [hq]
     have w2 : e.queue.length = 0:=by simp [hq]
     have gw:=fin (.inr hq)
     rw [gw] at res
     have hmsg : goM e0 nd = ms:=by rw [msg,goM,gw]; simp
     rw [res,hmsg]
     dsimp only
     generalize putD e l = L at *
     repeat' (first | intro (hb : _ = _) | refine ZV ?_ | refine ZB tm ron_specs_ok ?_ | refine ZH ?_ ?_ | refine ZJ (by conv=>lhs; simp [w0,w1,w2,capw,capq,f2,f3,f4,gM,cp]) ?_ | refine ZA ?_ ?_)
     refine RetNf.dataE rfl (by conv=>lhs; simp) (by conv=>lhs; simp [frqT,frqV,frqL,frq1,frz1,AP.run,lk_st,gM,tkm]) (by first | rfl | simp [inlT,inlV]) ?_
     exact rO_nrm nd L ms
   · obtain ⟨⟨a,m⟩,q,hq2⟩ : ∃ p q,e.queue = p :: q:=List.exists_cons_of_ne_nil hq
     clear hq fin cp
     obtain ⟨id',ow,rd,o,wt,qq⟩:=e
     dsimp only at hw hq2 id h1 h2 h3 h4 h5 h7 f3 capq capw
     subst hw hq2
     have w3 : q.length + 1 ≤ 9223372036854775807:=by simp only [List.length_cons] at h1; omega
     obtain ⟨p0,pm⟩:=h5 (a,m) (by simp)
     dsimp only at p0 pm
     have h5q : ∀ p ∈ q,0 ≤ p.1 ∧ (p.2 = 1 ∨ p.2 = 2):=fun p hp=>h5 p (by simp [hp])
     have h8:=h7 rfl
     clear h7
     simp only [List.length_cons] at h1 h8
     have ha : askC (a,m) = [.int .i64 a, .int .i64 m]:=rfl
     simp only [List.map_cons,List.map_nil,ha] at f3
     repeat' (first | intro (hb : _ = _) | refine ZV ?_ | refine ZB (id:=2) tm ron_specs_ok ?_ | refine ZB (id:=3) tm ron_specs_ok ?_ | refine ZH ?_ ?_ | refine ZJ (by conv=>lhs; simp [f2,f3,f4,gM,w3]) ?_ | refine ZA ?_ ?_)
     refine W.cutSB (fun σ' => ∃ x : OnI e0 nd l true,onM x.e < onM (⟨id',ow,rd,o,[],(a,m) :: q⟩ : En) ∧ AS.le ⟨106,[(2, .ptr 48 1 0 0),(3, .ptr 64 1 0 0),(4, .ptr 80 1 0 0),(6, .sl 20000 x.g 0 x.ms.length)],x.H⟩ σ') ?_ ?_
     · by_cases ho : ow = -1
       · subst ho
         rcases pm with rfl | rfl
         · have gr:=go_read (e:=(⟨id', -1,rd,o,[],(a,1) :: q⟩ : En)) (a:=a) (q:=q) rfl rfl rfl
           have n1:=Dir.asc_oth h3 a
           have hna : a ∉ Dir.oth rd a:=by rw [Dir.mem_oth]; simp
           have cw:=witS_eq rd (by omega) a
           rw [wit_ins h3] at cw
           have hIl : (Dir.ins a (Dir.oth rd a)).length ≤ rd.length + 1:=by rw [← wit_ins h3]; exact wit_len a rd
           have hIa:=Dir.asc_ins n1 hna
           obtain ⟨ms2,hms2⟩ : ∃ ms2,ms ++ [graM nd id' a 1 o] = ms2:=⟨_,rfl⟩
           have hl2 : ms2.length = ms.length + 1:=by rw [← hms2]; simp
           rw [gr] at res
           dsimp only at res
           have hmsg : goM e0 nd = ms2 ++ ((([] : List Int).map (revM nd e0.id)) ++ goM (⟨id', -1,Dir.ins a (Dir.oth rd a),o,[],q⟩ : En) nd):=by rw [msg,goM,gr, ← hms2,List.append_assoc]; rfl
           clear gr msg n1 hna
           generalize Dir.ins a (Dir.oth rd a) = N at *
           have y0 : ms.length ≤ 9223372036854775807:=by omega
           have y1 : ms.length ≤ maxLen:=by simp only [maxLen]; omega
           have y2 : (ms.length + 1) * 536 ≤ 140737488355328:=by omega
           have y4 : ms.length + 1 ≤ maxLen:=by simp only [maxLen]; omega
           have fR : firstRows ms.length (ms.map Msg.v) = ms.map Msg.v:=first_all (by simp)
           have hrow : ms.map Msg.v ++ [(graM nd id' a 1 o).v] = ms2.map Msg.v:=by rw [← hms2]; simp
           simp only [Msg.v,graM] at hrow
           have z1 : q.length * 16 ≤ 140737488355328:=by omega
           have z2 : q.length ≤ maxLen:=by simp only [maxLen]; omega
           have z3 : q.length ≤ 9223372036854775807:=by omega
           have tq : List.take q.length (q.map askC) = q.map askC:=List.take_of_length_le (by simp)
           clear hms2
           repeat' (first | intro (hb : _ = _) | refine ZV ?_ | refine ZB tm ron_specs_ok ?_ | refine ZH ?_ ?_ | refine ZJ (by conv=>lhs; simp [f2,f3,f4,gM,cw,w3,y0,y1,y2,y4,fR,hrow,m1,z1,z2,z3,tq]) ?_ | refine ZA ?_ ?_)
           exact ⟨⟨⟨id', -1,N,o,[],q⟩,ms2,g + 1, .list 1 [], .sl 912 _ 0 q.length,_,_,id,by simp; omega,by simp,hIa,by simp,h5q,fun _=>by simp; omega,res,hmsg,enC_nrm' (⟨id', -1,N,o,[],q⟩ : En) _ _ _ _ (rc_list []) (ra_sl _ _ _ _), .inr (.inr ⟨_,rfl,by simp [lk_st]; rfl,rfl⟩),by simp [lk_st,f2],by simp [lk_st],by simp [lk_st,f4],by simp [lk_st,msgB]⟩,by simp [onM],AS.le_of rfl ⟨rfl,rfl,rfl,by simp [lk,hl2],trivial⟩ (fun _=>rfl)⟩
         · by_cases hd : Dir.oth rd a = []
           · have gr:=go_write (e:=(⟨id', -1,rd,o,[],(a,2) :: q⟩ : En)) (a:=a) (m:=2) (q:=q) rfl rfl rfl (by decide) hd
             have cw:=wioS_eq rd (by omega) a
             rw [hd] at cw
             obtain ⟨ms2,hms2⟩ : ∃ ms2,ms ++ [graM nd id' a 2 o] = ms2:=⟨_,rfl⟩
             have hl2 : ms2.length = ms.length + 1:=by rw [← hms2]; simp
             rw [gr] at res
             dsimp only at res
             have hmsg : goM e0 nd = ms2 ++ ((([] : List Int).map (revM nd e0.id)) ++ goM (⟨id',a,[],zOb,[],q⟩ : En) nd):=by rw [msg,goM,gr, ← hms2,List.append_assoc]; rfl
             clear gr msg
             have y0 : ms.length ≤ 9223372036854775807:=by omega
             have y1 : ms.length ≤ maxLen:=by simp only [maxLen]; omega
             have y2 : (ms.length + 1) * 536 ≤ 140737488355328:=by omega
             have y4 : ms.length + 1 ≤ maxLen:=by simp only [maxLen]; omega
             have fR : firstRows ms.length (ms.map Msg.v) = ms.map Msg.v:=first_all (by simp)
             have hrow : ms.map Msg.v ++ [(graM nd id' a 2 o).v] = ms2.map Msg.v:=by rw [← hms2]; simp
             simp only [Msg.v,graM] at hrow
             have z1 : q.length * 16 ≤ 140737488355328:=by omega
             have z2 : q.length ≤ maxLen:=by simp only [maxLen]; omega
             have z3 : q.length ≤ 9223372036854775807:=by omega
             have tq : List.take q.length (q.map askC) = q.map askC:=List.take_of_length_le (by simp)
             clear hms2
             repeat' (first | intro (hb : _ = _) | refine ZV ?_ | refine ZB tm ron_specs_ok ?_ | refine ZH ?_ ?_ | refine ZJ (by conv=>lhs; simp [f2,f3,f4,gM,cw,w3,y0,y1,y2,y4,fR,hrow,m1,z1,z2,z3,tq]) ?_ | refine ZA ?_ ?_)
             exact ⟨⟨⟨id',a,[],zOb,[],q⟩,ms2,g + 1, .list 1 [], .sl 912 _ 0 q.length,_,_,id,by simp; omega,by simp,List.Pairwise.nil,by dsimp only; omega,h5q,fun _=>by simp; omega,res,hmsg,enC_nrmZ id' a _ _ _ _ (rc_list []) (ra_sl _ _ _ _), .inr (.inr ⟨_,rfl,by simp [lk_st]; rfl,rfl⟩),by simp [lk_st,f2],by simp [lk_st]; rfl,by simp [lk_st,f4],by simp [lk_st,msgB]⟩,by simp [onM],AS.le_of rfl ⟨rfl,rfl,rfl,by simp [lk,hl2],trivial⟩ (fun _=>rfl)⟩
           · have gd:=go_dem (e:=(⟨id', -1,rd,o,[],(a,2) :: q⟩ : En)) (a:=a) (m:=2) (q:=q) rfl rfl rfl (by decide) hd
             have hol : (Dir.oth rd a).length ≤ rd.length:=List.length_filter_le _ _
             have hpos : 0 < (Dir.oth rd a).length:=List.length_pos_iff.2 hd
             have cw:=wioS_eq rd (by omega) a
             rw [gd] at res
             dsimp only at res
             have hmsg : goM e0 nd = ms ++ (((Dir.oth rd a).map (revM nd e0.id)) ++ goM (⟨id', -1,rd,o,Dir.oth rd a,(a,2) :: q⟩ : En) nd):=by rw [goM_wait (e:=(⟨id', -1,rd,o,Dir.oth rd a,(a,2) :: q⟩ : En)) hd,msg,goM,gd,List.append_nil, ← id,List.map_map]; rfl
             have hres : (Dir.goOn zOb e0).2 = (Dir.goOn zOb (⟨id', -1,rd,o,Dir.oth rd a,(a,2) :: q⟩ : En)).2:=by rw [res,go_wait hd]
             clear gd res msg
             generalize Dir.oth rd a = N at *
             have p1 : (0 : Int) < N.length:=by omega
             have p2 : N.length ≤ 9223372036854775807:=by omega
             repeat' (first | intro (hb : _ = _) | refine ZV ?_ | refine ZB tm ron_specs_ok ?_ | refine ZH ?_ ?_ | refine ZJ (by conv=>lhs; simp [f2,f3,f4,gM,cw,p1,p2,hpos]) ?_ | refine ZA ?_ ?_)
             exact ⟨⟨⟨id', -1,rd,o,N,(a,2) :: q⟩,ms,g,_,_,_,_,id,by simp; omega,by dsimp only; omega,h3,by simp,h5,fun _=>by simp; omega,hres,hmsg,enC_nrm _, .inl ⟨rfl,rfl⟩,by simp [lk_st,f2],by simp [lk_st,ha],by simp [lk_st,f4],by simp [lk_st,fM]⟩,by simp [onM,hd],AS.le_of rfl ⟨rfl,rfl,rfl,rfl,trivial⟩ (fun _=>rfl)⟩
       · have p1 : 0 ≤ ow:=by omega
         have gd:=go_own (e:=(⟨id',ow,rd,o,[],(a,m) :: q⟩ : En)) (a:=a) (m:=m) (q:=q) rfl rfl ho
         have hmsg : goM e0 nd = ms ++ (([ow].map (revM nd e0.id)) ++ goM (⟨id',ow,rd,o,[ow],(a,m) :: q⟩ : En) nd):=by rw [goM_wait (e:=(⟨id',ow,rd,o,[ow],(a,m) :: q⟩ : En)) (by simp),msg,goM,gd,List.append_nil, ← id]; rfl
         have hres : (Dir.goOn zOb e0).2 = (Dir.goOn zOb (⟨id',ow,rd,o,[ow],(a,m) :: q⟩ : En)).2:=by rw [res,gd,go_wait (e:=(⟨id',ow,rd,o,[ow],(a,m) :: q⟩ : En)) (by simp)]
         clear gd res msg
         repeat' (first | intro (hb : _ = _) | refine ZV ?_ | refine ZB tm ron_specs_ok ?_ | refine ZH ?_ ?_ | refine ZJ (by conv=>lhs; simp [f2,f3,f4,gM,p1,m1]) ?_ | refine ZA ?_ ?_)
         exact ⟨⟨⟨id',ow,rd,o,[ow],(a,m) :: q⟩,ms,g, .sl 1040 _ 0 1, .list 2 (((a,m) :: q).map askC),_,_,id,by simp; omega,by simp,h3,h4,h5,fun _=>by simp; omega,hres,hmsg,enC_nrm' (⟨id',ow,rd,o,[ow],(a,m) :: q⟩ : En) _ _ _ _ (rc_sl _ _ _ _) (ra_list _), .inr (.inl ⟨_,rfl,by simp [lk_st,iC]; rfl,rfl⟩),by simp [lk_st,f2],by simp [lk_st,ha],by simp [lk_st,f4],by simp [lk_st,fM]⟩,by simp [onM],AS.le_of rfl ⟨rfl,rfl,rfl,rfl,trivial⟩ (fun _=>rfl)⟩
     · rintro σ' ⟨x,hμ,hle⟩
       refine W.weak hle ?_
       clear hle msg res h1 h2 h3 h4 h5 h5q h8 f2 f3 f4 fM gM tkm capq capw p0 pm w3 ha
       generalize (⟨id',ow,rd,o,[],(a,m) :: q⟩ : En) = eo at *
       refine on_head x fun h f2 f3 f4 fM=>?_
       obtain ⟨e,ms,g,X,Y,row,H,id,h1,h2,h3,h4,h5,h7,res,msg,hn,hXY,b2,b3,b4,bM⟩:=x
       dsimp only at f3 fM hμ ⊢
       clear hn hXY b2 b3 b4 bM
       have h8:=h7 (.inl rfl)
       simp only [if_true] at msg
       have capw : e.waiting.length ≤ 9223372036854775807:=by omega
       simp only [enC] at f3
       repeat' (first | intro (hb : _ = _) | refine ZV ?_ | refine ZB tm ron_specs_ok ?_ | refine ZH ?_ ?_ | refine ZJ (by conv=>lhs; simp [f3,capw]) ?_ | refine ZA ?_ ?_)
       refine W.loop rfl (ι:={ q : Nat × NL ABlk // q.1 ≤ e.waiting.length ∧ lk q.2 48 = some { gen:=1,kind:=2,elem:=27,size:=2,inl:=false,rows:=[[.int .i64 nd, .list 41 (l.map enC)]] } ∧ lk q.2 64 = some { gen:=1,kind:=2,elem:=128,size:=41,inl:=false,rows:=[enC e] } ∧ lk q.2 80 = some { gen:=1,kind:=2,elem:=27,size:=2,inl:=false,rows:=[[.int .i64 0, .nils]] } ∧ lk q.2 20000 = some (msgB (g + q.1) (ms ++ (e.waiting.take q.1).map (revM nd e0.id))) })
         (fun q=>⟨106,[(2, .ptr 48 1 0 0),(3, .ptr 64 1 0 0),(4, .ptr 80 1 0 0),(6, .sl 20000 (g + q.1.1) 0 (ms.length + q.1.1)),(86, .list 1 (e.waiting.map iC)),(87, .int .i64 e.waiting.length),(88, .int .i64 (q.1.1 : Nat))],q.1.2⟩) (fun q=>e.waiting.length - q.1.1)
         ⟨(0,_),by simp,by simp [f2],by simp [f3],by simp [f4],by simp [fM]⟩ (AS.le_of rfl ⟨rfl,rfl,rfl,rfl,rfl,rfl,rfl,trivial⟩ (fun _=>rfl)) ?_
       clear f2 f3 f4 fM
       rintro ⟨⟨k,H⟩,hk,f2,f3,f4,fM⟩
       dsimp only at hk f2 f3 f4 fM ⊢
       by_cases hk2 : k = e.waiting.length
       · subst hk2
         rw [List.take_length] at fM
         repeat' (first | intro (hb : _ = _) | refine ZV ?_ | refine ZB tm ron_specs_ok ?_ | refine ZH ?_ ?_ | refine ZJ (by conv=>lhs; simp) ?_ | refine ZA ?_ ?_)
         exact ⟨⟨e,ms ++ e.waiting.map (revM nd e0.id),g + e.waiting.length, .list 1 (e.waiting.map iC), .list 2 (e.queue.map askC),enC e,_,id,h1,h2,h3,h4,h5,fun hw=>by
           have : e.waiting = []:=by simpa using hw
           rw [this]
           simpa using h8,res,by rw [msg,List.append_assoc]; rfl,enC_nrm e, .inl ⟨rfl,rfl⟩,by simpa using f2,by simpa using f3,by simpa using f4,by simpa using fM⟩,hμ,AS.le_of rfl ⟨rfl,rfl,rfl,by simp [lk],trivial⟩ (fun _=>rfl)⟩
       · have hlt : k < e.waiting.length:=by omega
         obtain ⟨n,hr⟩:=get_lt hlt
         have hm2 : (e.waiting.map iC)[k]? = some [.int .i64 n]:=by rw [List.getElem?_map,hr]; rfl
         have q1 : (k : Int) < e.waiting.length:=by omega
         have q2 : ¬ e.waiting.length ≤ k:=by omega
         have hw : IntKind.i64.wrap ((k : Int) + 1) = ((k + 1 : Nat) : Int):=w64 (by omega) (by omega)
         have ht : (e.waiting.take (k + 1)).map (revM nd e0.id) = (e.waiting.take k).map (revM nd e0.id) ++ [revM nd e0.id n]:=by rw [List.take_add_one,hr,Option.toList_some,List.map_append]; rfl
         have hlen : (ms ++ (e.waiting.take k).map (revM nd e0.id)).length = ms.length + k:=by simp; omega
         obtain ⟨A,hA⟩ : ∃ A,ms ++ (e.waiting.take k).map (revM nd e0.id) = A:=⟨_,rfl⟩
         have hA2 : ms ++ (e.waiting.take (k + 1)).map (revM nd e0.id) = A ++ [revM nd e0.id n]:=by rw [ht, ← hA,List.append_assoc]
         rw [hA] at hlen fM
         obtain ⟨b,hb⟩ : ∃ b,ms.length + k = b:=⟨_,rfl⟩
         rw [hb] at hlen ⊢
         have e1 : ms.length + (k + 1) = b + 1:=by omega
         have y0 : b ≤ 9223372036854775807:=by omega
         have y1 : b ≤ maxLen:=by simp only [maxLen]; omega
         have y2 : (b + 1) * 536 ≤ 140737488355328:=by omega
         have y4 : b + 1 ≤ maxLen:=by simp only [maxLen]; omega
         have tA : List.take b (A.map Msg.v) = A.map Msg.v:=List.take_of_length_le (by simp; omega)
         have gM:=fM
         unfold msgB at gM
         have f3':=f3
         simp only [enC] at f3
         clear hlt hk2
         repeat' (first | intro (hb : _ = _) | refine ZV ?_ | refine ZB (id:=14) tm ron_specs_ok ?_ | refine ZB (id:=15) tm ron_specs_ok ?_ | refine ZB (id:=16) tm ron_specs_ok ?_ | refine ZH ?_ ?_ | refine ZJ (by conv=>lhs; simp [q1,q2,hm2,f2,f3,f4,gM,y0,y1,y2,y4,m1,tA,hlen]) ?_ | refine ZA ?_ ?_)
         obtain ⟨L,hL⟩ : ∃ L,leafs Try.prog 75 = L:=⟨_,rfl⟩
         refine W.nrmB 20000 L (by simp only [lk_st]; rfl) rfl ?_
         repeat' (first | intro (hb : _ = _) | refine ZV ?_ | refine ZB tm ron_specs_ok ?_ | refine ZH ?_ ?_ | refine ZJ (by conv=>lhs; simp [hw]) ?_ | refine ZA ?_ ?_)
         have hrow : List.map (nrmL Try.prog L) (firstRows b (A.map Msg.v)) ++ [nrmL Try.prog L (.int .i64 nd :: .int .i64 n :: .int .i64 3 :: .int .u64 e.id :: .int .i64 0 :: (zO ++ [.int .u64 0, .int .i64 0, .int .u64 0, .int .i64 0]))] = (A ++ [revM nd e0.id n]).map Msg.v:=by
           rw [← hL,first_all (by simpa using hlen),msg_nrms,List.map_append,msg_nrm0,id]
           rfl
         exact ⟨⟨(k + 1,_),by dsimp only; omega,by simp [lk_st,f2],by simp [lk_st,f3],by simp [lk_st,f4],by
           dsimp only
           rw [hA2]
           simp only [lk_st,msgB]
           exact congrArg (fun r=>some ({ gen:=g + (k + 1),kind:=2,elem:=75,size:=45,inl:=true,rows:=r } : ABlk)) hrow⟩,by dsimp only; omega,AS.le_of rfl ⟨rfl,rfl,rfl,by simp [lk,e1,Nat.add_assoc],rfl,rfl,rfl,trivial⟩ (fun _=>rfl)⟩
 · have w0 : ((e.waiting.length : Int) == 0) = false:=by simp [hw]
   have gw:=fin (.inl hw)
   rw [gw] at res
   have hmsg : goM e0 nd = ms:=by rw [msg,goM,gw]; simp
   rw [res,hmsg]
   dsimp only
   generalize putD e l = L at *
   repeat' (first | intro (hb : _ = _) | refine ZV ?_ | refine ZB tm ron_specs_ok ?_ | refine ZH ?_ ?_ | refine ZJ (by conv=>lhs; simp [w0,capw,capq,f2,f3,f4,gM,cp]) ?_ | refine ZA ?_ ?_)
   refine RetNf.dataE rfl (by conv=>lhs; simp) (by conv=>lhs; simp [frqT,frqV,frqL,frq1,frz1,AP.run,lk_st,gM,tkm]) (by first | rfl | simp [inlT,inlV]) ?_
   exact rO_nrm nd L ms
end
section
attribute [local simp] instA slice3A slice3C
attribute [-simp] mkv
attribute [local simp] mkv_hd hdA_cons hdA_ob hdA_ob'
noncomputable def rask_specs : NL Spec := [(62,⟨1,vdS⟩),(63,⟨1,boS okN⟩),(64,⟨1,rfnS⟩),(65,⟨1,hasS⟩),(66,⟨1,ronS⟩)]
theorem rask_specs_ok : ∀ p ∈ rask_specs,FnC Try.prog p.1 p.2.fn := by
 simp only [rask_specs,List.mem_cons,List.not_mem_nil,or_false]
 rintro p (rfl | rfl | rfl | rfl | rfl)
 · exact rvd_ok
 · exact rnode_ok
 · exact rfn_ok
 · exact rhas_ok
 · exact ron_ok
attribute [local simp] rask_specs
theorem rask_ok : FnC Try.prog 35 askS := by
 refine FnC.walkN 35 (fn:=Try.f35) [27,61,38] Try.func35 rfl (by kernel_rfl) (fun x=>?_) (fun x=>⟨_,rD_nrm _ _ _ _⟩)
 obtain ⟨⟨nd,l,hl,he⟩,id,n,m⟩:=x
 have cv:=vdS_eq ⟨nd,l,hl,he⟩
 have c1:=boS_eq okN n
 have ce:=rfnS_eq ⟨nd,l,hl,he⟩ id
 simp only [Drs.v] at cv ce
 change W _ (RetNf _ _ _ (rD (askL ⟨nd,l,hl,he⟩ id n m).1 (askL ⟨nd,l,hl,he⟩ id n m).2.1 (askL ⟨nd,l,hl,he⟩ id n m).2.2.1 (askL ⟨nd,l,hl,he⟩ id n m).2.2.2) []) _ _ ⟨87,[(0, .agg [.int .i64 nd, .list 41 (l.map enC)]),(1, .int .u64 id),(2, .int .i64 n),(3, .int .i64 m)],[]⟩
 generalize hR : askL ⟨nd,l,hl,he⟩ id n m = R
 unfold askL at hR
 dsimp only at hR
 cases hv : validD nd l with
 | false =>
   rw [if_pos hv] at hR
   subst hR
   rw [hv] at cv
   repeat' (first | intro (hb : _ = _) | refine ZV ?_ | refine ZB tm rask_specs_ok ?_ | refine ZH ?_ ?_ | refine ZJ (by conv=>lhs; simp [cv]) ?_ | refine ZA ?_ ?_)
   refine Ye ?_
   exact rD_nrm0 1
 | true =>
   rw [if_neg (by simp [hv])] at hR
   rw [hv] at cv
   by_cases hz : (id == 0 || (!okN n || !okM m)) = true
   · rw [if_pos hz] at hR
     subst hR
     by_cases h0 : id = 0
     · have g0 : (id == 0) = true:=by simp [h0]
       clear hz h0
       repeat' (first | intro (hb : _ = _) | refine ZV ?_ | refine ZB tm rask_specs_ok ?_ | refine ZH ?_ ?_ | refine ZJ (by conv=>lhs; simp [cv,g0]) ?_ | refine ZA ?_ ?_)
       refine Ye ?_
       exact rD_nrm0 2
     · have g0 : (id == 0) = false:=by simp [h0]
       cases hn : okN n with
       | false =>
         rw [hn] at c1
         clear hz h0 hn
         repeat' (first | intro (hb : _ = _) | refine ZV ?_ | refine ZB tm rask_specs_ok ?_ | refine ZH ?_ ?_ | refine ZJ (by conv=>lhs; simp [cv,g0,c1]) ?_ | refine ZA ?_ ?_)
         refine Ye ?_
         exact rD_nrm0 2
       | true =>
         rw [hn] at c1
         have g1 : (m != 1) = true:=by rw [hn,g0] at hz; simp [okM] at hz; simp [hz.1]
         have g2 : (m != 2) = true:=by rw [hn,g0] at hz; simp [okM] at hz; simp [hz.2]
         clear hz h0 hn
         repeat' (first | intro (hb : _ = _) | refine ZV ?_ | refine ZB tm rask_specs_ok ?_ | refine ZH ?_ ?_ | refine ZJ (by conv=>lhs; simp [cv,g0,c1,g1,g2]) ?_ | refine ZA ?_ ?_)
         refine Ye ?_
         exact rD_nrm0 2
   · rw [if_neg hz] at hR
     have g0 : (id == 0) = false:=by
       cases h : (id == 0)
       · rfl
       · rw [h] at hz; simp at hz
     have hn : okN n = true:=by
       cases h : okN n
       · rw [h] at hz; simp at hz
       · rfl
     have hm : okM m = true:=by
       cases h : okM m
       · rw [h] at hz; simp at hz
       · rfl
     have hid : id ≠ 0:=by simpa using g0
     have hm2 : m = 1 ∨ m = 2:=by simpa [okM] using hm
     have n0:=(okN_iff.1 hn).1
     rw [hn] at c1
     obtain ⟨oe,oa,o1,o2⟩:=fndD_ok he hv id
     have hh:=fnd_hn hv hid
     have h6:=validD_ascE hv
     generalize fndD id l = e at *
     obtain ⟨id',ow,rd,o,wt,q⟩:=e
     obtain ⟨-, -,o3⟩:=oe
     have hh1:=hh.o1
     have hhq:=hh.qu
     dsimp only at oa o1 o2 o3 ce hR hh1 hhq
     have c3:=hasS_eq rd (by omega) n
     obtain ⟨Q,hQ⟩ : ∃ Q,q ++ [(n,m)] = Q:=⟨_,rfl⟩
     have hQl : Q.length = q.length + 1:=by rw [← hQ]; simp
     have hQm : q.map askC ++ [[.int .i64 n, .int .i64 m]] = Q.map askC:=by rw [← hQ]; simp [askC]
     have hQ5 : ∀ p ∈ Q,0 ≤ p.1 ∧ (p.2 = 1 ∨ p.2 = 2):=fun p hp=>by
       rw [← hQ] at hp
       rcases List.mem_append.1 hp with hp | hp
       · have:=hhq p hp
         exact ⟨(okN_iff.1 this.1).1,by simpa [okM] using this.2⟩
       · simp only [List.mem_singleton] at hp
         subst hp
         exact ⟨n0,hm2⟩
     have cF:=ronS_eq ⟨⟨nd,l,hl,he⟩,⟨id',ow,rd,o,wt,Q⟩,by dsimp only; omega,by dsimp only; omega,oa,hh1,hQ5,h6⟩
     simp only [Drs.v,rO,enC] at cF
     rw [hQ] at hR
     generalize goM ⟨id',ow,rd,o,wt,Q⟩ nd = ms at *
     generalize Dir.goOn zOb ⟨id',ow,rd,o,wt,Q⟩ = G at *
     obtain ⟨m0,e'⟩:=G
     dsimp only at cF hR
     generalize putD e' l = L at *
     have g1 : ((m != 1) && (m != 2)) = false:=by rcases hm2 with rfl | rfl <;> rfl
     have y4 : q.length ≤ 9223372036854775807:=by omega
     have y5 : q.length * 16 ≤ 140737488355328:=by omega
     have y1 : q.length ≤ maxLen:=by simp only [maxLen]; omega
     have y2 : (q.length + 1) * 16 ≤ 140737488355328:=by omega
     have y3 : q.length + 1 ≤ maxLen:=by simp only [maxLen]; omega
     have fq : firstRows q.length (q.map askC) = q.map askC:=first_all (by simp)
     have tq : List.take q.length (q.map askC) = q.map askC:=List.take_of_length_le (by simp)
     have t4 : List.take (q.length + 1) (Q.map askC) = Q.map askC:=List.take_of_length_le (by simp; omega)
     generalize hb3 : decide (n ∈ rd) = b3 at *
     clear hz hh hhq hQ hQ5 oa hm hn he h6 hv
     obtain ⟨B0,hB0⟩ : ∃ B0,(ow == n || (m == 1 && b3)) = B0:=⟨_,rfl⟩
     have hR2 : (ow == n || (m == 1 && b3 || q.any fun p=>p.1 == n)) = (B0 || q.any fun p=>p.1 == n):=by rw [← hB0, ← Bool.or_assoc]
     rw [hR2] at hR
     clear hR2
     simp only [enC] at ce
     clear g1
     rcases hm2 with hm1 | hm1
     · have e1 : (m != 1) = false:=by simp [hm1]
       have e2 : (m == 1) = true:=by simp [hm1]
       have e3:=e1
       clear hm1
       by_cases ho : (ow == n) = true
       · have hBe : true = B0:=by rw [← hB0,ho,e2]; simp
         repeat' (first | intro (hb : _ = _) | refine ZV ?_ | refine ZB (id:=0) tm rask_specs_ok ?_ | refine ZB (id:=1) tm rask_specs_ok ?_ | refine ZB (id:=2) tm rask_specs_ok ?_ | refine ZB (id:=3) tm rask_specs_ok ?_ | refine ZB (id:=4) tm rask_specs_ok ?_ | refine ZB (id:=5) tm rask_specs_ok ?_ | refine ZB (id:=6) tm rask_specs_ok ?_ | refine ZB (id:=7) tm rask_specs_ok ?_ | refine ZH ?_ ?_ | refine ZJ (by conv=>lhs; simp [cv,g0,c1,ce,c3,y4,e1,e2,e3,ho]) ?_ | refine ZA ?_ ?_)
         refine W.loop rfl (ι:={ x : Nat × Bool × NL ABlk // x.1 ≤ q.length ∧ x.2.1 = (B0 || (q.take x.1).any fun p=>p.1 == n) ∧ lk x.2.2 80 = some { gen:=1,kind:=2,elem:=27,size:=2,inl:=false,rows:=[[.int .i64 nd, .list 41 (l.map enC)]] } ∧ lk x.2.2 144 = some { gen:=1,kind:=2,elem:=27,size:=2,inl:=false,rows:=[[.int .i64 0, .nils]] } ∧ lk x.2.2 192 = some { gen:=1,kind:=2,elem:=128,size:=41,inl:=false,rows:=[enC ⟨id',ow,rd,o,wt,q⟩] } })
           (fun x=>⟨87,[(2, .int .i64 n),(3, .int .i64 m),(4, .ptr 80 1 0 0),(8, .ptr 144 1 0 0),(11, .ptr 192 1 0 0),(12, .bool x.1.2.1),(54, .list 2 (q.map askC)),(55, .int .i64 q.length),(56, .int .i64 (x.1.1 : Nat))],x.1.2.2⟩) (fun x=>q.length - x.1.1)
           ⟨(0,true,_),by simp,by simp [hBe],by simp [lk,lk_st],by simp [lk,lk_st],by simp [lk,lk_st]⟩ (AS.le_of rfl ⟨rfl,rfl,rfl,rfl,rfl,rfl,rfl,rfl,rfl,trivial⟩ (fun _=>rfl)) ?_
         clear cv ce c1 c3 hBe hB0 e1 e2 e3 ho
         rintro ⟨⟨k,b,H⟩,hk,hb,f4,f8,f11⟩
         dsimp only at hk hb f4 f8 f11 ⊢
         simp only [enC] at f11
         by_cases hk2 : k = q.length
         · subst hk2
           rw [List.take_length] at hb
           rw [← hb] at hR
           cases b with
           | true =>
             rw [if_pos rfl] at hR
             subst hR
             repeat' (first | intro (hb : _ = _) | refine ZV ?_ | refine ZB tm rask_specs_ok ?_ | refine ZH ?_ ?_ | refine ZJ (by conv=>lhs; simp [f4,f8,f11]) ?_ | refine ZA ?_ ?_)
             refine Ye ?_
             exact rD_nrm0 8
           | false =>
             rw [if_neg (by simp)] at hR
             subst hR
             repeat' (first | intro (hb : _ = _) | refine ZV ?_ | refine ZB (id:=8) tm rask_specs_ok ?_ | refine ZB (id:=9) tm rask_specs_ok ?_ | refine ZB (id:=10) tm rask_specs_ok ?_ | refine ZB (id:=11) tm rask_specs_ok ?_ | refine ZB (id:=12) tm rask_specs_ok ?_ | refine ZB (id:=13) tm rask_specs_ok ?_ | refine ZB (id:=14) tm rask_specs_ok ?_ | refine ZH ?_ ?_ | refine ZJ (by conv=>lhs; simp [f4,f8,f11,y1,y2,y3,y4,y5,fq,tq,hQm,m1]) ?_ | refine ZA ?_ ?_)
             refine W.frzC 192 0 40 (by rw [lk_st,if_pos rfl]) rfl rfl rfl (row40 _) (by conv=>lhs; simp [frqT,frqV,frq1,frz1,AP.run,lk_st,t4,hQl]) (by rw [lk_st,if_neg (by decide),lk_st,if_pos rfl]) ?_
             dsimp only
             rw [List.set_cons_zero,rset40]
             repeat' (first | intro (hb : _ = _) | refine ZV ?_ | refine ZB tm rask_specs_ok ?_ | refine ZH ?_ ?_ | refine ZJ (by conv=>lhs; simp [f4,f8,cF]) ?_ | refine ZA ?_ ?_)
             refine Ye ?_
             exact rD_nrm nd L ms 0
         · have hlt : k < q.length:=by omega
           obtain ⟨⟨a1,a2⟩,hr⟩:=get_lt hlt
           have hm : (q.map askC)[k]? = some [.int .i64 a1, .int .i64 a2]:=by rw [List.getElem?_map,hr]; rfl
           have q1 : (k : Int) < q.length:=by omega
           have q2 : ¬ q.length ≤ k:=by omega
           have hw : IntKind.i64.wrap ((k : Int) + 1) = ((k + 1 : Nat) : Int):=w64 (by omega) (by omega)
           have hb2 : (b || a1 == n) = (B0 || (q.take (k + 1)).any fun p=>p.1 == n):=by
             rw [List.take_add_one,hr,hb]
             simp [Bool.or_assoc]
           clear hk2 hlt
           cases b with
           | true =>
             repeat' (first | intro (hb : _ = _) | refine ZV ?_ | refine ZB tm rask_specs_ok ?_ | refine ZH ?_ ?_ | refine ZJ (by conv=>lhs; simp [q1,q2,hm,hw,f4,f8,f11]) ?_ | refine ZA ?_ ?_)
             exact ⟨⟨(k + 1,true,_),by dsimp only; omega,by rw [← hb2]; rfl,by simp [lk_st,f4],by simp [lk_st,f8],by simp [lk_st,f11]⟩,by dsimp only; omega,AS.le_of rfl ⟨rfl,rfl,rfl,rfl,rfl,rfl,rfl,rfl,rfl,trivial⟩ (fun _=>rfl)⟩
           | false =>
             repeat' (first | intro (hb : _ = _) | refine ZV ?_ | refine ZB tm rask_specs_ok ?_ | refine ZH ?_ ?_ | refine ZJ (by conv=>lhs; simp [q1,q2,hm,hw,f4,f8,f11]) ?_ | refine ZA ?_ ?_)
             exact ⟨⟨(k + 1,_,_),by dsimp only; omega,by rw [← hb2]; rfl,by simp [lk_st,f4],by simp [lk_st,f8],by simp [lk_st,f11]⟩,by dsimp only; omega,AS.le_of rfl ⟨rfl,rfl,rfl,rfl,rfl,rfl,rfl,rfl,rfl,trivial⟩ (fun _=>rfl)⟩
       · have ho : (ow == n) = false:=by simpa using ho
         have hBe : b3 = B0:=by rw [← hB0,ho,e2]; simp
         repeat' (first | intro (hb : _ = _) | refine ZV ?_ | refine ZB (id:=0) tm rask_specs_ok ?_ | refine ZB (id:=1) tm rask_specs_ok ?_ | refine ZB (id:=2) tm rask_specs_ok ?_ | refine ZB (id:=3) tm rask_specs_ok ?_ | refine ZB (id:=4) tm rask_specs_ok ?_ | refine ZB (id:=5) tm rask_specs_ok ?_ | refine ZB (id:=6) tm rask_specs_ok ?_ | refine ZB (id:=7) tm rask_specs_ok ?_ | refine ZH ?_ ?_ | refine ZJ (by conv=>lhs; simp [cv,g0,c1,ce,c3,y4,e1,e2,e3,ho]) ?_ | refine ZA ?_ ?_)
         refine W.loop rfl (ι:={ x : Nat × Bool × NL ABlk // x.1 ≤ q.length ∧ x.2.1 = (B0 || (q.take x.1).any fun p=>p.1 == n) ∧ lk x.2.2 80 = some { gen:=1,kind:=2,elem:=27,size:=2,inl:=false,rows:=[[.int .i64 nd, .list 41 (l.map enC)]] } ∧ lk x.2.2 144 = some { gen:=1,kind:=2,elem:=27,size:=2,inl:=false,rows:=[[.int .i64 0, .nils]] } ∧ lk x.2.2 192 = some { gen:=1,kind:=2,elem:=128,size:=41,inl:=false,rows:=[enC ⟨id',ow,rd,o,wt,q⟩] } })
           (fun x=>⟨87,[(2, .int .i64 n),(3, .int .i64 m),(4, .ptr 80 1 0 0),(8, .ptr 144 1 0 0),(11, .ptr 192 1 0 0),(12, .bool x.1.2.1),(54, .list 2 (q.map askC)),(55, .int .i64 q.length),(56, .int .i64 (x.1.1 : Nat))],x.1.2.2⟩) (fun x=>q.length - x.1.1)
           ⟨(0,b3,_),by simp,by simp [hBe],by simp [lk,lk_st],by simp [lk,lk_st],by simp [lk,lk_st]⟩ (AS.le_of rfl ⟨rfl,rfl,rfl,rfl,rfl,rfl,rfl,rfl,rfl,trivial⟩ (fun _=>rfl)) ?_
         clear cv ce c1 c3 hBe hB0 e1 e2 e3 ho
         rintro ⟨⟨k,b,H⟩,hk,hb,f4,f8,f11⟩
         dsimp only at hk hb f4 f8 f11 ⊢
         simp only [enC] at f11
         by_cases hk2 : k = q.length
         · subst hk2
           rw [List.take_length] at hb
           rw [← hb] at hR
           cases b with
           | true =>
             rw [if_pos rfl] at hR
             subst hR
             repeat' (first | intro (hb : _ = _) | refine ZV ?_ | refine ZB tm rask_specs_ok ?_ | refine ZH ?_ ?_ | refine ZJ (by conv=>lhs; simp [f4,f8,f11]) ?_ | refine ZA ?_ ?_)
             refine Ye ?_
             exact rD_nrm0 8
           | false =>
             rw [if_neg (by simp)] at hR
             subst hR
             repeat' (first | intro (hb : _ = _) | refine ZV ?_ | refine ZB (id:=8) tm rask_specs_ok ?_ | refine ZB (id:=9) tm rask_specs_ok ?_ | refine ZB (id:=10) tm rask_specs_ok ?_ | refine ZB (id:=11) tm rask_specs_ok ?_ | refine ZB (id:=12) tm rask_specs_ok ?_ | refine ZB (id:=13) tm rask_specs_ok ?_ | refine ZB (id:=14) tm rask_specs_ok ?_ | refine ZH ?_ ?_ | refine ZJ (by conv=>lhs; simp [f4,f8,f11,y1,y2,y3,y4,y5,fq,tq,hQm,m1]) ?_ | refine ZA ?_ ?_)
             refine W.frzC 192 0 40 (by rw [lk_st,if_pos rfl]) rfl rfl rfl (row40 _) (by conv=>lhs; simp [frqT,frqV,frq1,frz1,AP.run,lk_st,t4,hQl]) (by rw [lk_st,if_neg (by decide),lk_st,if_pos rfl]) ?_
             dsimp only
             rw [List.set_cons_zero,rset40]
             repeat' (first | intro (hb : _ = _) | refine ZV ?_ | refine ZB tm rask_specs_ok ?_ | refine ZH ?_ ?_ | refine ZJ (by conv=>lhs; simp [f4,f8,cF]) ?_ | refine ZA ?_ ?_)
             refine Ye ?_
             exact rD_nrm nd L ms 0
         · have hlt : k < q.length:=by omega
           obtain ⟨⟨a1,a2⟩,hr⟩:=get_lt hlt
           have hm : (q.map askC)[k]? = some [.int .i64 a1, .int .i64 a2]:=by rw [List.getElem?_map,hr]; rfl
           have q1 : (k : Int) < q.length:=by omega
           have q2 : ¬ q.length ≤ k:=by omega
           have hw : IntKind.i64.wrap ((k : Int) + 1) = ((k + 1 : Nat) : Int):=w64 (by omega) (by omega)
           have hb2 : (b || a1 == n) = (B0 || (q.take (k + 1)).any fun p=>p.1 == n):=by
             rw [List.take_add_one,hr,hb]
             simp [Bool.or_assoc]
           clear hk2 hlt
           cases b with
           | true =>
             repeat' (first | intro (hb : _ = _) | refine ZV ?_ | refine ZB tm rask_specs_ok ?_ | refine ZH ?_ ?_ | refine ZJ (by conv=>lhs; simp [q1,q2,hm,hw,f4,f8,f11]) ?_ | refine ZA ?_ ?_)
             exact ⟨⟨(k + 1,true,_),by dsimp only; omega,by rw [← hb2]; rfl,by simp [lk_st,f4],by simp [lk_st,f8],by simp [lk_st,f11]⟩,by dsimp only; omega,AS.le_of rfl ⟨rfl,rfl,rfl,rfl,rfl,rfl,rfl,rfl,rfl,trivial⟩ (fun _=>rfl)⟩
           | false =>
             repeat' (first | intro (hb : _ = _) | refine ZV ?_ | refine ZB tm rask_specs_ok ?_ | refine ZH ?_ ?_ | refine ZJ (by conv=>lhs; simp [q1,q2,hm,hw,f4,f8,f11]) ?_ | refine ZA ?_ ?_)
             exact ⟨⟨(k + 1,_,_),by dsimp only; omega,by rw [← hb2]; rfl,by simp [lk_st,f4],by simp [lk_st,f8],by simp [lk_st,f11]⟩,by dsimp only; omega,AS.le_of rfl ⟨rfl,rfl,rfl,rfl,rfl,rfl,rfl,rfl,rfl,trivial⟩ (fun _=>rfl)⟩
     · have e1 : (m != 1) = true:=by simp [hm1]
       have e2 : (m == 1) = false:=by simp [hm1]
       have e3 : (m != 2) = false:=by simp [hm1]
       clear hm1
       by_cases ho : (ow == n) = true
       · have hBe : true = B0:=by rw [← hB0,ho,e2]; simp
         repeat' (first | intro (hb : _ = _) | refine ZV ?_ | refine ZB (id:=0) tm rask_specs_ok ?_ | refine ZB (id:=1) tm rask_specs_ok ?_ | refine ZB (id:=2) tm rask_specs_ok ?_ | refine ZB (id:=3) tm rask_specs_ok ?_ | refine ZB (id:=4) tm rask_specs_ok ?_ | refine ZB (id:=5) tm rask_specs_ok ?_ | refine ZB (id:=6) tm rask_specs_ok ?_ | refine ZB (id:=7) tm rask_specs_ok ?_ | refine ZH ?_ ?_ | refine ZJ (by conv=>lhs; simp [cv,g0,c1,ce,c3,y4,e1,e2,e3,ho]) ?_ | refine ZA ?_ ?_)
         refine W.loop rfl (ι:={ x : Nat × Bool × NL ABlk // x.1 ≤ q.length ∧ x.2.1 = (B0 || (q.take x.1).any fun p=>p.1 == n) ∧ lk x.2.2 80 = some { gen:=1,kind:=2,elem:=27,size:=2,inl:=false,rows:=[[.int .i64 nd, .list 41 (l.map enC)]] } ∧ lk x.2.2 144 = some { gen:=1,kind:=2,elem:=27,size:=2,inl:=false,rows:=[[.int .i64 0, .nils]] } ∧ lk x.2.2 192 = some { gen:=1,kind:=2,elem:=128,size:=41,inl:=false,rows:=[enC ⟨id',ow,rd,o,wt,q⟩] } })
           (fun x=>⟨87,[(2, .int .i64 n),(3, .int .i64 m),(4, .ptr 80 1 0 0),(8, .ptr 144 1 0 0),(11, .ptr 192 1 0 0),(12, .bool x.1.2.1),(54, .list 2 (q.map askC)),(55, .int .i64 q.length),(56, .int .i64 (x.1.1 : Nat))],x.1.2.2⟩) (fun x=>q.length - x.1.1)
           ⟨(0,true,_),by simp,by simp [hBe],by simp [lk,lk_st],by simp [lk,lk_st],by simp [lk,lk_st]⟩ (AS.le_of rfl ⟨rfl,rfl,rfl,rfl,rfl,rfl,rfl,rfl,rfl,trivial⟩ (fun _=>rfl)) ?_
         clear cv ce c1 c3 hBe hB0 e1 e2 e3 ho
         rintro ⟨⟨k,b,H⟩,hk,hb,f4,f8,f11⟩
         dsimp only at hk hb f4 f8 f11 ⊢
         simp only [enC] at f11
         by_cases hk2 : k = q.length
         · subst hk2
           rw [List.take_length] at hb
           rw [← hb] at hR
           cases b with
           | true =>
             rw [if_pos rfl] at hR
             subst hR
             repeat' (first | intro (hb : _ = _) | refine ZV ?_ | refine ZB tm rask_specs_ok ?_ | refine ZH ?_ ?_ | refine ZJ (by conv=>lhs; simp [f4,f8,f11]) ?_ | refine ZA ?_ ?_)
             refine Ye ?_
             exact rD_nrm0 8
           | false =>
             rw [if_neg (by simp)] at hR
             subst hR
             repeat' (first | intro (hb : _ = _) | refine ZV ?_ | refine ZB (id:=8) tm rask_specs_ok ?_ | refine ZB (id:=9) tm rask_specs_ok ?_ | refine ZB (id:=10) tm rask_specs_ok ?_ | refine ZB (id:=11) tm rask_specs_ok ?_ | refine ZB (id:=12) tm rask_specs_ok ?_ | refine ZB (id:=13) tm rask_specs_ok ?_ | refine ZB (id:=14) tm rask_specs_ok ?_ | refine ZH ?_ ?_ | refine ZJ (by conv=>lhs; simp [f4,f8,f11,y1,y2,y3,y4,y5,fq,tq,hQm,m1]) ?_ | refine ZA ?_ ?_)
             refine W.frzC 192 0 40 (by rw [lk_st,if_pos rfl]) rfl rfl rfl (row40 _) (by conv=>lhs; simp [frqT,frqV,frq1,frz1,AP.run,lk_st,t4,hQl]) (by rw [lk_st,if_neg (by decide),lk_st,if_pos rfl]) ?_
             dsimp only
             rw [List.set_cons_zero,rset40]
             repeat' (first | intro (hb : _ = _) | refine ZV ?_ | refine ZB tm rask_specs_ok ?_ | refine ZH ?_ ?_ | refine ZJ (by conv=>lhs; simp [f4,f8,cF]) ?_ | refine ZA ?_ ?_)
             refine Ye ?_
             exact rD_nrm nd L ms 0
         · have hlt : k < q.length:=by omega
           obtain ⟨⟨a1,a2⟩,hr⟩:=get_lt hlt
           have hm : (q.map askC)[k]? = some [.int .i64 a1, .int .i64 a2]:=by rw [List.getElem?_map,hr]; rfl
           have q1 : (k : Int) < q.length:=by omega
           have q2 : ¬ q.length ≤ k:=by omega
           have hw : IntKind.i64.wrap ((k : Int) + 1) = ((k + 1 : Nat) : Int):=w64 (by omega) (by omega)
           have hb2 : (b || a1 == n) = (B0 || (q.take (k + 1)).any fun p=>p.1 == n):=by
             rw [List.take_add_one,hr,hb]
             simp [Bool.or_assoc]
           clear hk2 hlt
           cases b with
           | true =>
             repeat' (first | intro (hb : _ = _) | refine ZV ?_ | refine ZB tm rask_specs_ok ?_ | refine ZH ?_ ?_ | refine ZJ (by conv=>lhs; simp [q1,q2,hm,hw,f4,f8,f11]) ?_ | refine ZA ?_ ?_)
             exact ⟨⟨(k + 1,true,_),by dsimp only; omega,by rw [← hb2]; rfl,by simp [lk_st,f4],by simp [lk_st,f8],by simp [lk_st,f11]⟩,by dsimp only; omega,AS.le_of rfl ⟨rfl,rfl,rfl,rfl,rfl,rfl,rfl,rfl,rfl,trivial⟩ (fun _=>rfl)⟩
           | false =>
             repeat' (first | intro (hb : _ = _) | refine ZV ?_ | refine ZB tm rask_specs_ok ?_ | refine ZH ?_ ?_ | refine ZJ (by conv=>lhs; simp [q1,q2,hm,hw,f4,f8,f11]) ?_ | refine ZA ?_ ?_)
             exact ⟨⟨(k + 1,_,_),by dsimp only; omega,by rw [← hb2]; rfl,by simp [lk_st,f4],by simp [lk_st,f8],by simp [lk_st,f11]⟩,by dsimp only; omega,AS.le_of rfl ⟨rfl,rfl,rfl,rfl,rfl,rfl,rfl,rfl,rfl,trivial⟩ (fun _=>rfl)⟩
       · have ho : (ow == n) = false:=by simpa using ho
         have hBe : false = B0:=by rw [← hB0,ho,e2]; simp
         repeat' (first | intro (hb : _ = _) | refine ZV ?_ | refine ZB (id:=0) tm rask_specs_ok ?_ | refine ZB (id:=1) tm rask_specs_ok ?_ | refine ZB (id:=2) tm rask_specs_ok ?_ | refine ZB (id:=3) tm rask_specs_ok ?_ | refine ZB (id:=4) tm rask_specs_ok ?_ | refine ZB (id:=5) tm rask_specs_ok ?_ | refine ZB (id:=6) tm rask_specs_ok ?_ | refine ZB (id:=7) tm rask_specs_ok ?_ | refine ZH ?_ ?_ | refine ZJ (by conv=>lhs; simp [cv,g0,c1,ce,c3,y4,e1,e2,e3,ho]) ?_ | refine ZA ?_ ?_)
         refine W.loop rfl (ι:={ x : Nat × Bool × NL ABlk // x.1 ≤ q.length ∧ x.2.1 = (B0 || (q.take x.1).any fun p=>p.1 == n) ∧ lk x.2.2 80 = some { gen:=1,kind:=2,elem:=27,size:=2,inl:=false,rows:=[[.int .i64 nd, .list 41 (l.map enC)]] } ∧ lk x.2.2 144 = some { gen:=1,kind:=2,elem:=27,size:=2,inl:=false,rows:=[[.int .i64 0, .nils]] } ∧ lk x.2.2 192 = some { gen:=1,kind:=2,elem:=128,size:=41,inl:=false,rows:=[enC ⟨id',ow,rd,o,wt,q⟩] } })
           (fun x=>⟨87,[(2, .int .i64 n),(3, .int .i64 m),(4, .ptr 80 1 0 0),(8, .ptr 144 1 0 0),(11, .ptr 192 1 0 0),(12, .bool x.1.2.1),(54, .list 2 (q.map askC)),(55, .int .i64 q.length),(56, .int .i64 (x.1.1 : Nat))],x.1.2.2⟩) (fun x=>q.length - x.1.1)
           ⟨(0,false,_),by simp,by simp [hBe],by simp [lk,lk_st],by simp [lk,lk_st],by simp [lk,lk_st]⟩ (AS.le_of rfl ⟨rfl,rfl,rfl,rfl,rfl,rfl,rfl,rfl,rfl,trivial⟩ (fun _=>rfl)) ?_
         clear cv ce c1 c3 hBe hB0 e1 e2 e3 ho
         rintro ⟨⟨k,b,H⟩,hk,hb,f4,f8,f11⟩
         dsimp only at hk hb f4 f8 f11 ⊢
         simp only [enC] at f11
         by_cases hk2 : k = q.length
         · subst hk2
           rw [List.take_length] at hb
           rw [← hb] at hR
           cases b with
           | true =>
             rw [if_pos rfl] at hR
             subst hR
             repeat' (first | intro (hb : _ = _) | refine ZV ?_ | refine ZB tm rask_specs_ok ?_ | refine ZH ?_ ?_ | refine ZJ (by conv=>lhs; simp [f4,f8,f11]) ?_ | refine ZA ?_ ?_)
             refine Ye ?_
             exact rD_nrm0 8
           | false =>
             rw [if_neg (by simp)] at hR
             subst hR
             repeat' (first | intro (hb : _ = _) | refine ZV ?_ | refine ZB (id:=8) tm rask_specs_ok ?_ | refine ZB (id:=9) tm rask_specs_ok ?_ | refine ZB (id:=10) tm rask_specs_ok ?_ | refine ZB (id:=11) tm rask_specs_ok ?_ | refine ZB (id:=12) tm rask_specs_ok ?_ | refine ZB (id:=13) tm rask_specs_ok ?_ | refine ZB (id:=14) tm rask_specs_ok ?_ | refine ZH ?_ ?_ | refine ZJ (by conv=>lhs; simp [f4,f8,f11,y1,y2,y3,y4,y5,fq,tq,hQm,m1]) ?_ | refine ZA ?_ ?_)
             refine W.frzC 192 0 40 (by rw [lk_st,if_pos rfl]) rfl rfl rfl (row40 _) (by conv=>lhs; simp [frqT,frqV,frq1,frz1,AP.run,lk_st,t4,hQl]) (by rw [lk_st,if_neg (by decide),lk_st,if_pos rfl]) ?_
             dsimp only
             rw [List.set_cons_zero,rset40]
             repeat' (first | intro (hb : _ = _) | refine ZV ?_ | refine ZB tm rask_specs_ok ?_ | refine ZH ?_ ?_ | refine ZJ (by conv=>lhs; simp [f4,f8,cF]) ?_ | refine ZA ?_ ?_)
             refine Ye ?_
             exact rD_nrm nd L ms 0
         · have hlt : k < q.length:=by omega
           obtain ⟨⟨a1,a2⟩,hr⟩:=get_lt hlt
           have hm : (q.map askC)[k]? = some [.int .i64 a1, .int .i64 a2]:=by rw [List.getElem?_map,hr]; rfl
           have q1 : (k : Int) < q.length:=by omega
           have q2 : ¬ q.length ≤ k:=by omega
           have hw : IntKind.i64.wrap ((k : Int) + 1) = ((k + 1 : Nat) : Int):=w64 (by omega) (by omega)
           have hb2 : (b || a1 == n) = (B0 || (q.take (k + 1)).any fun p=>p.1 == n):=by
             rw [List.take_add_one,hr,hb]
             simp [Bool.or_assoc]
           clear hk2 hlt
           cases b with
           | true =>
             repeat' (first | intro (hb : _ = _) | refine ZV ?_ | refine ZB tm rask_specs_ok ?_ | refine ZH ?_ ?_ | refine ZJ (by conv=>lhs; simp [q1,q2,hm,hw,f4,f8,f11]) ?_ | refine ZA ?_ ?_)
             exact ⟨⟨(k + 1,true,_),by dsimp only; omega,by rw [← hb2]; rfl,by simp [lk_st,f4],by simp [lk_st,f8],by simp [lk_st,f11]⟩,by dsimp only; omega,AS.le_of rfl ⟨rfl,rfl,rfl,rfl,rfl,rfl,rfl,rfl,rfl,trivial⟩ (fun _=>rfl)⟩
           | false =>
             repeat' (first | intro (hb : _ = _) | refine ZV ?_ | refine ZB tm rask_specs_ok ?_ | refine ZH ?_ ?_ | refine ZJ (by conv=>lhs; simp [q1,q2,hm,hw,f4,f8,f11]) ?_ | refine ZA ?_ ?_)
             exact ⟨⟨(k + 1,_,_),by dsimp only; omega,by rw [← hb2]; rfl,by simp [lk_st,f4],by simp [lk_st,f8],by simp [lk_st,f11]⟩,by dsimp only; omega,AS.le_of rfl ⟨rfl,rfl,rfl,rfl,rfl,rfl,rfl,rfl,rfl,trivial⟩ (fun _=>rfl)⟩
end
end Go.Abs.Np
