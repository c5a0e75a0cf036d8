/- Pinning, putting and making, as the program does. Conditions: none. -/
import Derived.Test.YtmcbpehpogjmoaaNp3
namespace Go.Abs.Np
open Go Go.Proofs Go.Abs
set_option maxRecDepth 100000
set_option maxHeartbeats 4000000
set_option linter.unusedSimpArgs false
set_option linter.unusedVariables false
section
attribute [local simp] instA
attribute [-simp] mkv
attribute [local simp] mkv_hd hdA_cons hdA_ob hdA_ob'
theorem wpn_eq (n : Int) (l : List Tok) (hl : l.length ≤ 9000) (id : Int) (t : Tok) (hs : Srt l) (hf : fnd id l = some t) : wpnS [.agg [.int .i64 n, .list 41 (l.map Tok.c)], .int .u64 id, .fn (.func 31) [] []] [] = some (.agg [.int .i64 n, .list 41 ((put { t with pin := true } l).map Tok.c)],[]) := by
 obtain ⟨h1,h2⟩:=fnd_get hs hf
 subst h2
 rw [← wiF_put (t':={ t with pin:=true }) hs hf]
 exact mkS_eq (enc:=fun x : WF=>[x.1.1.v, .int .u64 x.1.2.1, .fn (.func 31) [] []]) (res:=fun x : WF=>(.agg [.int .i64 x.1.1.node, .list 41 ((wiF (bsT x.1.1.toks x.1.2.1) { x.1.2.2 with pin:=true } x.1.1.toks).map Tok.c)],[])) (fun x y h=>by
   simp only [List.cons.injEq,AV.int.injEq,true_and,and_true] at h
   rw [WF.ext (Tks.v_inj h.1) h.2]) (⟨(⟨n,l,hl⟩,t.id,t),h1,rfl⟩ : WF)
theorem wpu_eq (n : Int) (l : List Tok) (hl : l.length ≤ 9000) (id : Int) (t : Tok) (q : Ob) (hs : Srt l) (hf : fnd id l = some t) : wpuS [.agg [.int .i64 n, .list 41 (l.map Tok.c)], .int .u64 id, .fn (.func 33) [] [.ptr 0 0 0 0]] [obB q] = some (.agg [.int .i64 n, .list 41 ((put { t with obj := q } l).map Tok.c)],[obB q]) := by
 obtain ⟨h1,h2⟩:=fnd_get hs hf
 subst h2
 rw [← wiF_put (t':={ t with obj:=q }) hs hf]
 exact mkS2_eq (enc:=fun x : WF × Ob=>([x.1.1.1.v, .int .u64 x.1.1.2.1, .fn (.func 33) [] [.ptr 0 0 0 0]],[obB x.2])) (res:=fun x : WF × Ob=>(.agg [.int .i64 x.1.1.1.node, .list 41 ((wiF (bsT x.1.1.1.toks x.1.1.2.1) { x.1.1.2.2 with obj:=x.2 } x.1.1.1.toks).map Tok.c)],[obB x.2])) (fun x y h=>by
   obtain ⟨x,p⟩:=x
   obtain ⟨y,r⟩:=y
   simp only [obB,Prod.mk.injEq,List.cons.injEq,AV.int.injEq,ABlk.mk.injEq,true_and,and_true] at h
   cases WF.ext (Tks.v_inj h.1.1) h.1.2
   cases Td.ext h.2
   rfl) ((⟨(⟨n,l,hl⟩,t.id,t),h1,rfl⟩ : WF),q)
theorem wmk_eq (n : Int) (l : List Tok) (hl : l.length ≤ 9000) (q : Ob) (hs : Srt l) (hf : fnd (oid q) l = none) : wmkS [.agg [.int .i64 n, .list 41 (l.map Tok.c)], .int .u64 (oid q), .fn (.func 23) [] [.ptr 0 0 0 0]] [obB q] = some (.agg [.int .i64 n, .list 41 ((put ⟨oid q,2,q,0,false,false⟩ l).map Tok.c)],[obB q]) := by
 rw [← wiN_put (t':=⟨oid q,2,q,0,false,false⟩) hs hf rfl]
 exact mkS2_eq (enc:=fun x : WN=>([x.1.1.v, .int .u64 (oid x.1.2), .fn (.func 23) [] [.ptr 0 0 0 0]],[obB x.1.2])) (res:=fun x : WN=>(.agg [.int .i64 x.1.1.node, .list 41 ((wiN (bsT x.1.1.toks (oid x.1.2)) ⟨oid x.1.2,2,x.1.2,0,false,false⟩ x.1.1.toks).map Tok.c)],[obB x.1.2])) (fun x y h=>by
   obtain ⟨⟨d,p⟩,hx⟩:=x
   obtain ⟨⟨e,r⟩,hy⟩:=y
   simp only [obB,Prod.mk.injEq,List.cons.injEq,AV.int.injEq,ABlk.mk.injEq,true_and,and_true] at h
   cases Tks.v_inj h.1.1
   cases Td.ext h.2
   rfl) (⟨(⟨n,l,hl⟩,q),fnd_none hs hf⟩ : WN)
theorem valid_mode {nd : Int} {l : List Tok} {i : Nat} {t : Tok} (h : valid nd l = true) (ht : l[i]? = some t) : t.mode ≤ 2 := by
 unfold valid at h
 rw [Bool.and_eq_true,List.all_eq_true] at h
 have:=h.1 i (List.mem_range.2 (List.getElem?_eq_some_iff.1 ht).1)
 unfold good at this
 rw [ht] at this
 dsimp only at this
 rw [Bool.and_eq_true] at this
 have hf:=this.1
 unfold fineR at hf
 simp only [Bool.and_eq_true] at hf
 have h2:=hf.2.1
 simp only [okM,Bool.or_eq_true,beq_iff_eq] at h2
 omega
theorem valid_held {nd : Int} {l : List Tok} {i : Nat} {t : Tok} (h : valid nd l = true) (ht : l[i]? = some t) : t.mode ≠ 0 ∨ t.want ≠ 0 := by
 unfold valid at h
 rw [Bool.and_eq_true,List.all_eq_true] at h
 have:=h.1 i (List.mem_range.2 (List.getElem?_eq_some_iff.1 ht).1)
 unfold good at this
 rw [ht] at this
 dsimp only at this
 rw [Bool.and_eq_true] at this
 have hf:=this.1
 unfold fineR at hf
 simp only [Bool.and_eq_true] at hf
 have h2:=hf.2.2.2.2.2.2
 simpa using h2
noncomputable def pinp_specs : NL Spec := [(18,⟨1,vaS⟩),(25,⟨1,boS okM⟩),(11,⟨1,hoS⟩),(22,⟨1,wpnS⟩)]
theorem pinp_specs_ok : ∀ p ∈ pinp_specs,FnC Try.prog p.1 p.2.fn := by
 simp only [pinp_specs,List.mem_cons,List.not_mem_nil,or_false]
 rintro p (rfl | rfl | rfl | rfl)
 · exact vap_ok
 · exact mo1_ok
 · exact ho_ok
 · exact wpn_ok
attribute [local simp] pinp_specs
theorem pinp_ok : FnC Try.prog 9 pinS := by
 refine FnC.walkN 9 (fn:=Try.f9) [30,38] Try.func9 rfl (by kernel_rfl) (fun d=>?_) (fun d=>⟨_,rT_nrm _ _ _⟩)
 obtain ⟨d,id,m⟩:=d
 have cv:=vaS_eq d
 have cm:=boS_eq okM m
 have ch:=hoS_eq d id m
 have cw:=fun t hs hf=>wpn_eq d.node d.toks d.bd id t hs hf
 simp only [Tks.v] at cv ch
 change W _ (RetNf _ _ _ (rT (pinL d id m).1 (pinL d id m).2.1 (pinL d id m).2.2) []) _ _ ⟨28,[(0, .agg [.int .i64 d.node, .list 41 (d.toks.map Tok.c)]),(1, .int .u64 id),(2, .int .i64 m)],[]⟩
 generalize hR : pinL d id m = R
 unfold pinL at hR
 dsimp only at hR
 cases hv : valid d.node d.toks with
 | false =>
   rw [if_pos hv] at hR
   subst hR
   rw [hv] at cv
   repeat' (first | intro (hb : _ = _) | refine ZV ?_ | refine ZB tm pinp_specs_ok ?_ | refine ZH ?_ ?_ | refine ZJ (by conv=>lhs; simp [cv]) ?_ | refine ZA ?_ ?_)
   refine Ye (rT_nrm0 1)
 | true =>
   rw [if_neg (by simp [hv])] at hR
   rw [hv] at cv
   have hs:=valid_srt hv
   cases ho : okM m with
   | false =>
     rw [if_pos ho] at hR
     subst hR
     rw [ho] at cm
     repeat' (first | intro (hb : _ = _) | refine ZV ?_ | refine ZB tm pinp_specs_ok ?_ | refine ZH ?_ ?_ | refine ZJ (by conv=>lhs; simp [cv,cm]) ?_ | refine ZA ?_ ?_)
     refine Ye (rT_nrm0 2)
   | true =>
     rw [if_neg (by simp [ho])] at hR
     rw [ho] at cm ch
     by_cases hlt : ((fnd id d.toks).getD (tok0 id)).mode < m
     · rw [if_pos hlt] at hR
       subst hR
       rw [decide_eq_false (by omega)] at ch
       repeat' (first | intro (hb : _ = _) | refine ZV ?_ | refine ZB tm pinp_specs_ok ?_ | refine ZH ?_ ?_ | refine ZJ (by conv=>lhs; simp [cv,cm,ch]) ?_ | refine ZA ?_ ?_)
       refine Ye (rT_nrm0 6)
     · rw [if_neg hlt] at hR
       rw [decide_eq_true (by omega)] at ch
       have hm : m = 1 ∨ m = 2:=by simpa [okM] using ho
       obtain ⟨t,hf⟩ : ∃ t,fnd id d.toks = some t:=by
         cases hf : fnd id d.toks with
         | none=>rw [hf] at hlt; simp [tok0] at hlt; omega
         | some t=>exact ⟨t,rfl⟩
       have cw:=cw t hs hf
       rw [hf,Option.getD_some] at hR
       generalize put { t with pin:=true } d.toks = L at *
       subst hR
       repeat' (first | intro (hb : _ = _) | refine ZV ?_ | refine ZB tm pinp_specs_ok ?_ | refine ZH ?_ ?_ | refine ZJ (by conv=>lhs; simp [cv,cm,ch,cw]) ?_ | refine ZA ?_ ?_)
       refine Ye ?_
       exact rT_nrm _ L 0
noncomputable def ptp_specs : NL Spec := [(18,⟨1,vaS⟩),(32,⟨1,fitS⟩),(11,⟨1,hoS⟩),(22,⟨3,wpuS⟩)]
theorem ptp_specs_ok : ∀ p ∈ ptp_specs,FnC Try.prog p.1 p.2.fn := by
 simp only [ptp_specs,List.mem_cons,List.not_mem_nil,or_false]
 rintro p (rfl | rfl | rfl | rfl)
 · exact vap_ok
 · exact fit_ok
 · exact ho_ok
 · exact wpu_ok
attribute [local simp] ptp_specs
theorem putop_ok : FnC Try.prog 12 putoS := by
 refine FnC.walkN 12 (fn:=Try.f12) [30,38] Try.func12 rfl (by kernel_rfl) (fun d=>?_) (fun d=>⟨_,rT_nrm _ _ _⟩)
 obtain ⟨d,id,q⟩:=d
 have cv:=vaS_eq d
 have ch:=hoS_eq d id 2
 have cz:=fitS_eq q id
 have cw:=fun t hs hf=>wpu_eq d.node d.toks d.bd id t q hs hf
 simp only [Tks.v] at cv ch
 change W _ (RetNf _ _ _ (rT (putoL d id q).1 (putoL d id q).2.1 (putoL d id q).2.2) []) _ _ ⟨29,[(0, .agg [.int .i64 d.node, .list 41 (d.toks.map Tok.c)]),(1, .int .u64 id),(2, .agg q.cells)],[]⟩
 generalize hR : putoL d id q = R
 unfold putoL at hR
 dsimp only at hR
 cases hv : valid d.node d.toks with
 | false =>
   rw [if_pos hv] at hR
   subst hR
   rw [hv] at cv
   repeat' (first | intro (hb : _ = _) | refine ZV ?_ | refine ZB tm ptp_specs_ok ?_ | refine ZH ?_ ?_ | refine ZJ (by conv=>lhs; simp [cv]) ?_ | refine ZA ?_ ?_)
   refine Ye (rT_nrm0 1)
 | true =>
   rw [if_neg (by simp [hv])] at hR
   rw [hv] at cv
   have hs:=valid_srt hv
   rw [show okM 2 = true from rfl,Bool.true_and] at ch
   have hbd : ((fnd id d.toks).getD (tok0 id)).mode ≤ 2:=by
     cases hf : fnd id d.toks with
     | none=>simp [tok0]
     | some t =>
       have h1:=(fnd_get hs hf).1
       exact valid_mode hv h1
   by_cases h2 : ((fnd id d.toks).getD (tok0 id)).mode = 2
   · rw [if_pos h2] at hR
     rw [decide_eq_true (by omega)] at ch
     obtain ⟨t,hf⟩ : ∃ t,fnd id d.toks = some t:=by
       cases hf : fnd id d.toks with
       | none=>rw [hf] at h2; simp [tok0] at h2
       | some t=>exact ⟨t,rfl⟩
     have cw:=cw t hs hf
     rw [hf,Option.getD_some] at hR
     generalize put { t with obj:=q } d.toks = L at *
     by_cases h3 : zO? q = false ∧ oid q ≠ id
     · rw [if_pos h3] at hR
       subst hR
       rw [show (oid q == id || zO? q) = false by simp [h3.1,h3.2]] at cz
       repeat' (first | intro (hb : _ = _) | refine ZV ?_ | refine ZB tm ptp_specs_ok ?_ | refine ZH ?_ ?_ | refine ZJ (by conv=>lhs; simp [cv,ch,cz]) ?_ | refine ZA ?_ ?_)
       refine Ye (rT_nrm0 10)
     · rw [if_neg h3] at hR
       subst hR
       rw [show (oid q == id || zO? q) = true by
         simp only [Bool.or_eq_true,beq_iff_eq]
         cases hz : zO? q with
         | true=>exact .inr rfl
         | false=>exact .inl (Decidable.not_not.1 fun e=>h3 ⟨hz,e⟩)] at cz
       simp only [obB] at cw
       repeat' (first | intro (hb : _ = _) | refine ZV ?_ | refine ZB tm ptp_specs_ok ?_ | refine ZH ?_ ?_ | refine ZJ (by conv=>lhs; simp [cv,ch,cz,cw]) ?_ | refine ZA ?_ ?_)
       refine Ye ?_
       exact rT_nrm _ L 0
   · rw [if_neg h2] at hR
     rw [decide_eq_false (by omega)] at ch
     subst hR
     repeat' (first | intro (hb : _ = _) | refine ZV ?_ | refine ZB tm ptp_specs_ok ?_ | refine ZH ?_ ?_ | refine ZJ (by conv=>lhs; simp [cv,ch]) ?_ | refine ZA ?_ ?_)
     refine Ye (rT_nrm0 8)
end
section
attribute [local simp] instA
attribute [-simp] mkv
attribute [local simp] mkv_hd hdA_cons hdA_ob hdA_ob'
theorem mq1_eq (a1 a2 : Int) (o : Ob) (a3 : Int) (a4 a5 : Bool) (q : Ob) : mq1S [.agg (.int .u64 a1 :: .int .i64 a2 :: (o.cells ++ [.int .i64 a3, .bool a4, .bool a5])), .ptr 0 0 0 0] [obB q] = some (.bool (a1 == oid q),[obB q]) :=
 mkS2_eq (enc:=encO) (res:=fun d=>(.bool (d.1.id == oid d.2),[obB d.2])) encO_inj (⟨a1,a2,o,a3,a4,a5⟩,q)
def encJ (d : {l : List Tok // l.length ≤ 9000} × Ob) : List AV × List ABlk := ([.list 41 (d.1.1.map Tok.c), .fn (.func 20) [] [.ptr 0 0 0 0]],[obB d.2])
theorem encJ_inj {β : Type} {f : {l : List Tok // l.length ≤ 9000} × Ob → β} : ∀ x y,encJ x = encJ y → f x = f y := fun x y h => by
 obtain ⟨⟨a,ha⟩,b⟩:=x
 obtain ⟨⟨a',ha'⟩,b'⟩:=y
 simp only [encJ,obB,Prod.mk.injEq,List.cons.injEq,AV.list.injEq,ABlk.mk.injEq,true_and,and_true] at h
 cases rows_inj h.1
 cases Td.ext h.2
 rfl
noncomputable def ixmS : SpecFn := mkS2 encJ fun d => (.int .i64 (idxF (oid d.2) 0 d.1.1),[obB d.2])
theorem ixm_eq (l : List Tok) (hl : l.length ≤ 9000) (q : Ob) : ixmS [.list 41 (l.map Tok.c), .fn (.func 20) [] [.ptr 0 0 0 0]] [obB q] = some (.int .i64 (idxF (oid q) 0 l),[obB q]) :=
 mkS2_eq (enc:=encJ) (res:=fun d=>(.int .i64 (idxF (oid d.2) 0 d.1.1),[obB d.2])) encJ_inj (⟨l,hl⟩,q)
noncomputable def ixm_specs : NL Spec := [(20,⟨3,mq1S⟩)]
theorem ixm_specs_ok : ∀ p ∈ ixm_specs,FnC Try.prog p.1 p.2.fn := by
 simp only [ixm_specs,List.mem_cons,List.not_mem_nil,or_false]
 rintro p rfl
 exact mq1_ok
attribute [local simp] ixm_specs
theorem ixm_ok : FnC Try.prog 44 ixmS := by
 refine FnC.walkB 44 (fn:=Try.f44) Try.func44 rfl (by kernel_rfl) (fun x b hb=>by simp [encJ] at hb; rw [hb]; rfl) fun x=>?_
 obtain ⟨⟨l,hl⟩,q⟩:=x
 change W _ (RetB _ _ 1 (.int .i64 (idxF (oid q) 0 l)) [obB q]) _ _ ⟨19,[(0, .list 41 (l.map Tok.c)),(1, .fn (.func 20) [] [.ptr 0 0 0 0])],[(0,obB q)]⟩
 have cap : l.length ≤ 9223372036854775807:=by have:=capT (n:=l.length) (by omega); exact this
 repeat' (first | intro (hb : _ = _) | refine ZV ?_ | refine ZB tm ixm_specs_ok ?_ | refine ZH ?_ ?_ | refine ZJ (by conv=>lhs; simp [cap]) ?_ | refine ZA ?_ ?_)
 refine W.loop rfl (ι:={ p : Nat × NL ABlk // p.1 ≤ l.length ∧ idxF (oid q) 0 l = idxF (oid q) p.1 (l.drop p.1) ∧ lk p.2 0 = some (obB q) })
   (fun p=>⟨19,[(0, .list 41 (l.map Tok.c)),(1, .fn (.func 20) [] [.ptr 0 0 0 0]),(7, .int .i64 l.length),(8, .int .i64 (p.1.1 : Nat))],p.1.2⟩) (fun p=>l.length - p.1.1)
   ⟨(0,_),by simp,rfl,rfl⟩ (AS.le_of rfl ⟨rfl,rfl,rfl,rfl,trivial⟩ (fun _=>rfl)) ?_
 rintro ⟨⟨k,h⟩,hk,hf,h1⟩
 dsimp only at hk hf h1 ⊢
 by_cases hk2 : k = l.length
 · subst hk2
   rw [List.drop_length] at hf
   rw [hf]
   simp only [idxF]
   repeat' (first | intro (hb : _ = _) | refine ZV ?_ | refine ZB tm ixm_specs_ok ?_ | refine ZH ?_ ?_ | refine ZJ (by conv=>lhs; simp) ?_ | refine ZA ?_ ?_)
   simp only [obB] at h1 ⊢
   first | exact retE2_ok false (by conv => lhs; simp [retE2, frqT, frqV, frqVs, frqL, frq1, reachE, blkRefs, outE, nodupE, firstE, seqO, expB2, expF, refsB, refsL, AV.refs, AV.ren, renL, renB, List.range, List.range.loop, resVs, resV, pack, h1]) | fail "no return here"
 · have hlt : k < l.length:=by omega
   obtain ⟨t,hr⟩:=get_lt hlt
   have hm : (l.map Tok.c)[k]? = some t.c:=by rw [List.getElem?_map,hr]; rfl
   have q1 : (k : Int) < l.length:=by omega
   have q2 : ¬ l.length ≤ k:=by omega
   have hw : IntKind.i64.wrap ((k : Int) + 1) = ((k + 1 : Nat) : Int):=w64 (by omega) (by omega)
   rw [idxF_drop hr] at hf
   obtain ⟨a1,a2,o,a3,a4,a5⟩:=t
   have cf:=mq1_eq a1 a2 o a3 a4 a5 q
   simp only [Tok.c,obB] at hm cf h1
   by_cases hi : a1 = oid q
   · have e1 : (a1 == oid q) = true:=by simp [hi]
     rw [if_pos hi] at hf
     rw [hf]
     rw [e1] at cf
     repeat' (first | intro (hb : _ = _) | refine ZV ?_ | refine ZB tm ixm_specs_ok ?_ | refine ZH ?_ ?_ | refine ZJ (by conv=>lhs; simp [q1,q2,hm,h1,cf]) ?_ | refine ZA ?_ ?_)
     simp only [obB]
     first | exact retE2_ok false (by conv => lhs; simp [retE2, frqT, frqV, frqVs, frqL, frq1, reachE, blkRefs, outE, nodupE, firstE, seqO, expB2, expF, refsB, refsL, AV.refs, AV.ren, renL, renB, List.range, List.range.loop, resVs, resV, pack, h1]) | fail "no return here"
   · have e1 : (a1 == oid q) = false:=by simp [hi]
     rw [if_neg hi] at hf
     rw [e1] at cf
     repeat' (first | intro (hb : _ = _) | refine ZV ?_ | refine ZB tm ixm_specs_ok ?_ | refine ZH ?_ ?_ | refine ZJ (by conv=>lhs; simp [q1,q2,hm,h1,cf,hw]) ?_ | refine ZA ?_ ?_)
     exact ⟨⟨(k + 1,_),hlt,hf,by simp [lk_st,h1,obB]⟩,by dsimp only; omega,AS.le_of rfl ⟨rfl,rfl,rfl,rfl,trivial⟩ (fun _=>rfl)⟩
noncomputable def ctmS : SpecFn := mkS2 encJ fun d => (.bool (decide (0 ≤ idxF (oid d.2) 0 d.1.1)),[obB d.2])
theorem ctm_eq (l : List Tok) (hl : l.length ≤ 9000) (q : Ob) : ctmS [.list 41 (l.map Tok.c), .fn (.func 20) [] [.ptr 0 0 0 0]] [obB q] = some (.bool (decide (0 ≤ idxF (oid q) 0 l)),[obB q]) :=
 mkS2_eq (enc:=encJ) (res:=fun d=>(.bool (decide (0 ≤ idxF (oid d.2) 0 d.1.1)),[obB d.2])) encJ_inj (⟨l,hl⟩,q)
noncomputable def ctm_specs : NL Spec := [(44,⟨3,ixmS⟩)]
theorem ctm_specs_ok : ∀ p ∈ ctm_specs,FnC Try.prog p.1 p.2.fn := by
 simp only [ctm_specs,List.mem_cons,List.not_mem_nil,or_false]
 rintro p rfl
 exact ixm_ok
attribute [local simp] ctm_specs
theorem ctm_ok : FnC Try.prog 21 ctmS := by
 refine FnC.walkB 21 (fn:=Try.f21) Try.func21 rfl (by kernel_rfl) (fun x b hb=>by simp [encJ] at hb; rw [hb]; rfl) fun x=>?_
 obtain ⟨⟨l,hl⟩,q⟩:=x
 change W _ (RetB _ _ 1 (.bool (decide (0 ≤ idxF (oid q) 0 l))) [obB q]) _ _ ⟨9,[(0, .list 41 (l.map Tok.c)),(1, .fn (.func 20) [] [.ptr 0 0 0 0])],[(0,obB q)]⟩
 have cf:=ixm_eq l hl q
 simp only [obB] at cf ⊢
 repeat' (first | intro (hb : _ = _) | refine ZV ?_ | refine ZB tm ctm_specs_ok ?_ | refine ZH ?_ ?_ | refine ZJ (by conv=>lhs; simp [cf]) ?_ | refine ZA ?_ ?_)
 first | exact retE2_ok false (by conv => lhs; simp [retE2, frqT, frqV, frqVs, frqL, frq1, reachE, blkRefs, outE, nodupE, firstE, seqO, expB2, expF, refsB, refsL, AV.refs, AV.ren, renL, renB, List.range, List.range.loop, resVs, resV, pack]) | fail "no return here"
theorem idxF_has (l : List Tok) (id : Int) : decide (0 ≤ idxF id 0 l) = (fnd id l).isSome := by
 rcases idxF_fnd id l 0 with ⟨h1,h2⟩ | ⟨j,t,h1,h2,h3⟩
 · rw [h1,h2]; rfl
 · rw [h2,h3]
   simp
noncomputable def mkp_specs : NL Spec := [(19,⟨1,spS⟩),(18,⟨1,vaS⟩),(21,⟨3,ctmS⟩),(22,⟨3,wmkS⟩)]
theorem mkp_specs_ok : ∀ p ∈ mkp_specs,FnC Try.prog p.1 p.2.fn := by
 simp only [mkp_specs,List.mem_cons,List.not_mem_nil,or_false]
 rintro p (rfl | rfl | rfl | rfl)
 · exact sp_id
 · exact vap_ok
 · exact ctm_ok
 · exact wmk_ok
attribute [local simp] mkp_specs
theorem mkep_ok : FnC Try.prog 5 mkeS := by
 refine FnC.walkN 5 (fn:=Try.f5) [30,38] Try.func5 rfl (by kernel_rfl) (fun d=>?_) (fun d=>⟨_,rT_nrm _ _ _⟩)
 obtain ⟨d,q⟩:=d
 have cv:=vaS_eq d
 have cs:=spS_eq (oid q)
 have cc:=ctm_eq d.toks d.bd q
 have cw:=fun hs hf=>wmk_eq d.node d.toks d.bd q hs hf
 rw [idxF_has] at cc
 simp only [Tks.v] at cv
 change W _ (RetNf _ _ _ (rT (mkeL d q).1 (mkeL d q).2.1 (mkeL d q).2.2) []) _ _ ⟨45,[(0, .agg [.int .i64 d.node, .list 41 (d.toks.map Tok.c)]),(1, .agg q.cells)],[]⟩
 generalize hR : mkeL d q = R
 unfold mkeL at hR
 dsimp only at hR
 generalize hqi : oid q = qi at *
 generalize sp0 qi = s0 at *
 generalize sp1 qi = s1 at *
 generalize sp2 qi = s2 at *
 simp only [obB] at cc cw
 cases hv : valid d.node d.toks with
 | false =>
   rw [if_pos hv] at hR
   subst hR
   rw [hv] at cv
   repeat' (first | intro (hb : _ = _) | refine ZV ?_ | refine ZB tm mkp_specs_ok ?_ | refine ZH ?_ ?_ | refine ZJ (by conv=>lhs; simp [cv,cs,hqi]) ?_ | refine ZA ?_ ?_)
   refine Ye (rT_nrm0 1)
 | true =>
   rw [if_neg (by simp [hv])] at hR
   rw [hv] at cv
   have hs:=valid_srt hv
   by_cases h2 : qi = 0
   · rw [if_pos h2] at hR
     subst hR
     have e2 : (qi == 0) = true:=by simp [h2]
     repeat' (first | intro (hb : _ = _) | refine ZV ?_ | refine ZB tm mkp_specs_ok ?_ | refine ZH ?_ ?_ | refine ZJ (by conv=>lhs; simp [cv,cs,hqi,e2]) ?_ | refine ZA ?_ ?_)
     refine Ye (rT_nrm0 2)
   · rw [if_neg h2] at hR
     have e2 : (qi == 0) = false:=by simp [h2]
     by_cases h3 : s0 = d.node
     · rw [if_neg (by simp [h3])] at hR
       have e3 : (s0 != d.node) = false:=by simp [h3]
       cases hf : fnd qi d.toks with
       | some t =>
         have ht:=valid_held hv (fnd_get hs hf).1
         rw [hf,Option.getD_some] at hR
         rw [hf] at cc
         have hR : (0,[],7) = R:=by
           by_cases h4 : t.mode = 0
           · rw [if_neg (by simp [h4]),if_pos (by rcases ht with h | h; exact absurd h4 h; exact h)] at hR
             exact hR
           · rw [if_pos h4] at hR
             exact hR
         subst hR
         repeat' (first | intro (hb : _ = _) | refine ZV ?_ | refine ZB tm mkp_specs_ok ?_ | refine ZH ?_ ?_ | refine ZJ (by conv=>lhs; simp [cv,cs,hqi,e2,e3,cc]) ?_ | refine ZA ?_ ?_)
         refine Ye (rT_nrm0 7)
       | none =>
         rw [hf] at hR cc
         have cw:=cw hs hf
         rw [if_neg (by simp [tok0]),if_neg (by simp [tok0])] at hR
         generalize put ⟨qi,2,q,0,false,false⟩ d.toks = L at *
         subst hR
         repeat' (first | intro (hb : _ = _) | refine ZV ?_ | refine ZB tm mkp_specs_ok ?_ | refine ZH ?_ ?_ | refine ZJ (by conv=>lhs; simp [cv,cs,hqi,e2,e3,cc,cw]) ?_ | refine ZA ?_ ?_)
         refine Ye ?_
         exact rT_nrm _ L 0
     · rw [if_pos h3] at hR
       subst hR
       have e3 : (s0 != d.node) = true:=by simp [h3]
       repeat' (first | intro (hb : _ = _) | refine ZV ?_ | refine ZB tm mkp_specs_ok ?_ | refine ZH ?_ ?_ | refine ZJ (by conv=>lhs; simp [cv,cs,hqi,e2,e3]) ?_ | refine ZA ?_ ?_)
       refine Ye (rT_nrm0 10)
end
section
attribute [local simp] instA
attribute [-simp] mkv
attribute [local simp] mkv_hd hdA_cons hdA_ob hdA_ob'
noncomputable def wgbS : SpecFn := mkS2 (fun x : WF × Int × Int => ([x.1.1.1.v, .int .u64 x.1.1.2.1, .fn (.func 69) [] [.ptr 0 0 0 0, .ptr 1 0 0 0]],[gmB x.2.1 x.2.2 x.1.1.2.1 0 zO,u8B x.1.1.2.1])) fun x => (.agg [.int .i64 x.1.1.1.node, .sl 2 0 0 (wiF (bsT x.1.1.1.toks x.1.1.2.1) ⟨x.1.1.2.1,0,zOb,x.1.1.2.2.want,false,false⟩ x.1.1.1.toks).length],[gmB x.2.1 x.2.2 x.1.1.2.1 x.1.1.2.2.mode (gOb x.1.1.2.2),u8B x.1.1.2.1,tkB0 (wiF (bsT x.1.1.1.toks x.1.1.2.1) ⟨x.1.1.2.1,0,zOb,x.1.1.2.2.want,false,false⟩ x.1.1.1.toks)])
attribute [local simp] wgv_specs cp2_eq bst_eq
theorem wgb_ok : FnC Try.prog 22 wgbS := by
 refine FnC.walkB 22 (fn:=Try.f22) Try.func22 rfl (by kernel_rfl) (fun x b hb=>by simp at hb; rcases hb with rfl | rfl <;> rfl) fun x=>?_
 obtain ⟨⟨⟨⟨nd,l,hl⟩,id,t⟩,ht,hi⟩,fr,to⟩:=x
 dsimp only at ht hi
 obtain ⟨i,hE⟩ : ∃ i,bsT l id = i:=⟨_,rfl⟩
 rw [hE] at ht
 have hA : hasAt l i id = true:=by simp [hasAt,ht,hi]
 have hil : i < l.length:=(List.getElem?_eq_some_iff.1 ht).1
 have hm : (l.map Tok.c)[i]? = some t.c:=by rw [List.getElem?_map,ht]; rfl
 obtain ⟨a1,a2,o,a3,a4,a5⟩:=t
 change W _ (RetB _ _ 2 (.agg [.int .i64 nd, .sl 2 0 0 (wiF (bsT l id) ⟨id,0,zOb,a3,false,false⟩ l).length]) [gmB fr to id a2 (gOb ⟨a1,a2,o,a3,a4,a5⟩),u8B id,tkB0 (wiF (bsT l id) ⟨id,0,zOb,a3,false,false⟩ l)]) _ _ ⟨62,[(0, .agg [.int .i64 nd, .list 41 (l.map Tok.c)]),(1, .int .u64 id),(2, .fn (.func 69) [] [.ptr 0 0 0 0, .ptr 1 0 0 0])],[(0,gmB fr to id 0 zO),(1,u8B id)]⟩
 have hl2 : l.length ≤ 9001:=by omega
 simp only [Tok.c] at hm hi
 have q2 : ¬ l.length ≤ i:=by omega
 have q3 : (i : Int) < l.length:=by omega
 have q4 : l.length ≤ 1000000:=by omega
 have hw : IntKind.i64.wrap ((i : Int) + 1) = ((i + 1 : Nat) : Int):=w64 (by omega) (by omega)
 have n1 : i ≤ min i l.length:=by omega
 have n2 : ∀ L : List (List AV),L.length = l.length → List.take (i + (l.length - (i + 1))) (List.take i L ++ List.drop (i + 1) L) = List.take i L ++ List.drop (i + 1) L:=fun L h=>List.take_of_length_le (by simp [h]; omega)
 have n3 : ∀ X,List.take l.length ((List.map Tok.c l).set i X) = (List.map Tok.c l).set i X:=fun X=>List.take_of_length_le (by simp)
 have hs : ∀ X,((List.map Tok.c l).set i X)[i]? = some X:=fun X=>List.getElem?_set_self (by simpa using hil)
 have cg:=gv1_eq a1 a2 o a3 a4 a5 fr to id (gOb ⟨a1,a2,o,a3,a4,a5⟩) rfl
 have r1:=gOb_ren ⟨a1,a2,o,a3,a4,a5⟩
 have r2:=gOb_refs ⟨a1,a2,o,a3,a4,a5⟩
 have r3:=gOb_len ⟨a1,a2,o,a3,a4,a5⟩
 have hz:=tok_nrm0 id 0 a3 false false
 generalize gOb ⟨a1,a2,o,a3,a4,a5⟩ = oc at *
 have hzl : (List.map (nrmL Try.prog (leafs Try.prog 71)) (List.map Tok.c l)).set i (⟨id,0,zOb,a3,false,false⟩ : Tok).c = (List.map Tok.c l).set i (⟨id,0,zOb,a3,false,false⟩ : Tok).c:=by rw [nrm_toks]
 generalize zOb = zq at *
 simp only [gmB,u8B,zO,List.cons_append,List.nil_append] at cg hz ⊢
 rw [hi] at cg
 repeat' (first | intro (hb : _ = _) | refine ZV ?_ | refine ZB (id:=0) tm wgv_specs_ok ?_ | refine ZB (id:=1) tm wgv_specs_ok ?_ | refine ZB (id:=2) tm wgv_specs_ok ?_ | refine ZB (id:=3) tm wgv_specs_ok ?_ | refine ZB (id:=4) tm wgv_specs_ok ?_ | refine ZB (id:=5) tm wgv_specs_ok ?_ | refine ZH ?_ ?_ | refine ZJ (by conv=>lhs; simp [hl,hl2,tkB0,bstR,hE,hA,hm,take_acc,hi,q2,q3,hw,del_eq,q4,cg,r1,r2]) ?_ | refine ZA ?_ ?_)
 refine W.nrmB 208 (leafs Try.prog 71) rfl rfl ?_
 simp only [List.map_set,nrm_toks,hz]
 repeat' (first | intro (hb : _ = _) | refine ZV ?_ | refine ZB tm wgv_specs_ok ?_ | refine ZH ?_ ?_ | refine ZJ (by conv=>lhs; simp [hs,hl,hl2,tkB0,bstR,hE,hA,hm,take_acc,hi,q2,q3,hw,del_eq,q4,cg,r1,r2]) ?_ | refine ZA ?_ ?_)
 · have hf : wiF (bsT l id) ⟨id,0,zq,a3,false,false⟩ l = l.take i ++ l.drop (i + 1):=by rw [hE,wiF,if_pos (by simpa [Tok.gone] using hb)]
   have hn : (l.take i ++ l.drop (i + 1)).length = i + (l.length - (i + 1)):=by simp; omega
   rw [hf,hn]
   exact RetB.raw [0,1,208] rfl (by conv=>lhs; simp) (by decide) (by rintro j hj; rcases (show j = 0 ∨ j = 1 by omega) with rfl | rfl <;> exact ⟨rfl,rfl⟩) (by simp [r1,tkB0,dropset]) (by simp)
 · have hf : wiF (bsT l id) ⟨id,0,zq,a3,false,false⟩ l = l.set i ⟨id,0,zq,a3,false,false⟩:=by rw [hE,wiF,if_neg (by simpa [Tok.gone] using hb)]
   rw [hf,List.length_set]
   exact RetB.raw [0,1,208] rfl (by conv=>lhs; simp) (by decide) (by rintro j hj; rcases (show j = 0 ∨ j = 1 by omega) with rfl | rfl <;> exact ⟨rfl,rfl⟩) (by simp [r1,tkB0]) (by simp)
theorem wgb_eq (n : Int) (l : List Tok) (hl : l.length ≤ 9000) (id fr to : Int) (t : Tok) (hs : Srt l) (hf : fnd id l = some t) : wgbS [.agg [.int .i64 n, .list 41 (l.map Tok.c)], .int .u64 id, .fn (.func 69) [] [.ptr 0 0 0 0, .ptr 1 0 0 0]] [gmB fr to id 0 zO,u8B id] = some (.agg [.int .i64 n, .sl 2 0 0 (put (bckT t) l).length],[gmB fr to id t.mode (gOb t),u8B id,tkB0 (put (bckT t) l)]) := by
 obtain ⟨h1,h2⟩:=fnd_get hs hf
 subst h2
 rw [← wiF_put (t':=bckT t) hs hf]
 exact mkS2_eq (enc:=fun x : WF × Int × Int=>([x.1.1.1.v, .int .u64 x.1.1.2.1, .fn (.func 69) [] [.ptr 0 0 0 0, .ptr 1 0 0 0]],[gmB x.2.1 x.2.2 x.1.1.2.1 0 zO,u8B x.1.1.2.1])) (res:=fun x : WF × Int × Int=>(.agg [.int .i64 x.1.1.1.node, .sl 2 0 0 (wiF (bsT x.1.1.1.toks x.1.1.2.1) ⟨x.1.1.2.1,0,zOb,x.1.1.2.2.want,false,false⟩ x.1.1.1.toks).length],[gmB x.2.1 x.2.2 x.1.1.2.1 x.1.1.2.2.mode (gOb x.1.1.2.2),u8B x.1.1.2.1,tkB0 (wiF (bsT x.1.1.1.toks x.1.1.2.1) ⟨x.1.1.2.1,0,zOb,x.1.1.2.2.want,false,false⟩ x.1.1.1.toks)])) (fun x y h=>by
   obtain ⟨x,p,q⟩:=x
   obtain ⟨y,r,s⟩:=y
   simp only [gmB,u8B,Prod.mk.injEq,List.cons.injEq,AV.int.injEq,ABlk.mk.injEq,true_and,and_true] at h
   cases WF.ext (Tks.v_inj h.1.1) h.1.2
   obtain ⟨-,⟨rfl,rfl, -⟩, -⟩:=h
   rfl) ((⟨(⟨n,l,hl⟩,t.id,t),h1,rfl⟩ : WF),fr,to)
theorem gOb_cel (t : Tok) : (gOb t).all AV.cellish = true := by
 unfold gOb
 split
 · simp
 · simp [zO]
theorem gOb_inl (t : Tok) : (gOb t).all AV.isInl = true := by
 unfold gOb
 split
 · simp
 · simp [zO]
def GI := { x : Tks × Int × Int × Tok // Srt x.1.toks ∧ fnd x.2.1 x.1.toks = some x.2.2.2 }
theorem GI.ext {x y : GI} (h1 : x.1.1 = y.1.1) (h2 : x.1.2.1 = y.1.2.1) (h3 : x.1.2.2.1 = y.1.2.2.1) : x = y := by
 obtain ⟨⟨d,i,m,t⟩,h,hi⟩:=x
 obtain ⟨⟨d',i',m',t'⟩,h',hi'⟩:=y
 dsimp only at h1 h2 h3 hi hi'
 subst h1 h2 h3
 rw [hi] at hi'
 cases hi'
 rfl
noncomputable def gvpS : SpecFn := mkS2 (fun x : GI => ([x.1.1.v, .int .u64 x.1.2.1, .int .i64 x.1.2.2.1],[])) fun x => (.tup [.agg [.int .i64 x.1.1.node, .sl 0 0 0 (put (bckT x.1.2.2.2) x.1.1.toks).length], .agg (bckM x.1.1.node x.1.2.2.2 x.1.2.2.1).v],[tkB0 (put (bckT x.1.2.2.2) x.1.1.toks)])
theorem gvp_eq (n : Int) (l : List Tok) (hl : l.length ≤ 9000) (id to : Int) (t : Tok) (hs : Srt l) (hf : fnd id l = some t) : gvpS [.agg [.int .i64 n, .list 41 (l.map Tok.c)], .int .u64 id, .int .i64 to] [] = some (.tup [.agg [.int .i64 n, .sl 0 0 0 (put (bckT t) l).length], .agg (bckM n t to).v],[tkB0 (put (bckT t) l)]) :=
 mkS2_eq (enc:=fun x : GI=>([x.1.1.v, .int .u64 x.1.2.1, .int .i64 x.1.2.2.1],[])) (res:=fun x : GI=>(.tup [.agg [.int .i64 x.1.1.node, .sl 0 0 0 (put (bckT x.1.2.2.2) x.1.1.toks).length], .agg (bckM x.1.1.node x.1.2.2.2 x.1.2.2.1).v],[tkB0 (put (bckT x.1.2.2.2) x.1.1.toks)])) (fun x y h=>by
   simp only [Prod.mk.injEq,List.cons.injEq,AV.int.injEq,true_and,and_true] at h
   cases GI.ext (Tks.v_inj h.1) h.2.1 h.2.2
   rfl) (⟨(⟨n,l,hl⟩,id,to,t),hs,hf⟩ : GI)
theorem gOb_nrm (nd to : Int) (t : Tok) : nrmR Try.prog [75] (.agg (.int .i64 nd :: .int .i64 to :: .int .i64 4 :: .int .u64 t.id :: .int .i64 t.mode :: (gOb t ++ [.int .u64 0, .int .i64 0, .int .u64 0, .int .i64 0]))) = .agg (bckM nd t to).v := by
 unfold gOb
 split
 · rename_i h
   rw [show (.int .i64 nd :: .int .i64 to :: .int .i64 4 :: .int .u64 t.id :: .int .i64 t.mode :: (t.obj.cells ++ [.int .u64 0, .int .i64 0, .int .u64 0, .int .i64 0]) : List AV) = (bckM nd t to).v by simp [bckM,h]]
   simp only [nrmR,nrmV,msg_nrm]
 · rename_i h
   simp only [nrmR,nrmV]
   rw [msg_nrm0]
   simp [bckM,h]
noncomputable def gvp_specs : NL Spec := [(22,⟨3,wgbS⟩)]
theorem gvp_specs_ok : ∀ p ∈ gvp_specs,FnC Try.prog p.1 p.2.fn := by
 simp only [gvp_specs,List.mem_cons,List.not_mem_nil,or_false]
 rintro p rfl
 exact wgb_ok
attribute [local simp] gvp_specs
theorem gvp_ok : FnC Try.prog 40 gvpS := by
 refine FnC.walkBN 40 (fn:=Try.f40) [30,75] Try.func40 rfl (by kernel_rfl) (fun x b hb=>by simp at hb) (fun x=>?_) (fun x=>?_)
 · obtain ⟨⟨⟨nd,l,hl⟩,id,to,t⟩,hs,hf⟩:=x
   dsimp only at hs hf
   have cw:=wgb_eq nd l hl id nd to t hs hf
   have ht:=(fnd_get hs hf).2
   change W _ (RetBN _ _ _ 0 (.tup [.agg [.int .i64 nd, .sl 0 0 0 (put (bckT t) l).length], .agg (bckM nd t to).v]) [tkB0 (put (bckT t) l)]) _ _ ⟨21,[(0, .agg [.int .i64 nd, .list 41 (l.map Tok.c)]),(1, .int .u64 id),(2, .int .i64 to)],[]⟩
   have hg:=gOb_nrm nd to t
   have r1:=gOb_ren t
   have r2:=gOb_refs t
   have r3:=gOb_len t
   have hc:=gOb_cel t
   have hi:=gOb_inl t
   generalize gOb t = oc at *
   generalize put (bckT t) l = L at *
   have r4 : ∀ (l : List AV) (n : Nat),36 ≤ n → (oc ++ l).take n = oc ++ l.take (n - 36):=fun l n h=>by rw [List.take_append,r3,List.take_of_length_le (by omega)]
   have r5 : ∀ (l : List AV) (n : Nat),36 ≤ n → (oc ++ l).drop n = l.drop (n - 36):=fun l n h=>by rw [List.drop_append,r3,List.drop_eq_nil_of_le (by omega),List.nil_append]
   have r6 : ∀ b : Bool,oc.all (fun x=>x.cellish && (!b || x.isInl)) = true:=fun b=>by
     rw [List.all_eq_true] at hc hi ⊢
     intro x hx
     simp [hc x hx,hi x hx]
   simp only [gmB,u8B,zO,tkB0,List.cons_append,List.nil_append] at cw
   repeat' (first | intro (hb : _ = _) | refine ZV ?_ | refine ZB tm gvp_specs_ok ?_ | refine ZH ?_ ?_ | refine ZJ (by conv=>lhs; simp [cw,r1,r2,r3,hc,r4,r5,hi,r6]) ?_ | refine ZA ?_ ?_)
   refine RetBN.dataE false [304] rfl (by conv=>lhs; simp [r3,r4]) (by conv=>lhs; simp [frqT]) (by decide) (fun j hj=>absurd hj (by omega)) (by simp [tkB0]) (by conv=>lhs; simp [r1]) ?_
   simp only [nrmR] at hg
   rw [ht] at hg
   simp only [nrmR,nrmL,hg]
   simp only [nrmV,tksLeafs,nrmL]
 · obtain ⟨⟨⟨nd,l,hl⟩,id,to,t⟩,hs,hf⟩:=x
   refine ⟨.tup [.agg [.int .i64 nd, .sl 0 0 0 (put (bckT t) l).length], .agg (bckM nd t to).v], ?_⟩
   simp only [nrmR,nrmL,nrmV,msg_nrm,tksLeafs]
end
section
def dues (l : List Tok) : List Tok := l.filter (·.due)
noncomputable def gvA : List Tok → Nat → List Tok
 | [],_=>[]
 | t :: r,0=>t :: r
 | t :: r,j + 1=>if t.due = true then (if t.want = 0 then gvA r j else bckT t :: gvA r j) else t :: gvA r (j + 1)
noncomputable def gvL (j : Nat) (l : List Tok) : List Tok := gvA l j
theorem gvL_z (l : List Tok) : gvL 0 l = l := by cases l <;> rfl
theorem gvL_c (j : Nat) (t : Tok) (r : List Tok) : gvL (j + 1) (t :: r) = if t.due = true then (if t.want = 0 then gvL j r else bckT t :: gvL j r) else t :: gvL (j + 1) r := by
 unfold gvL
 rw [gvA]
theorem gvL_nil (j : Nat) : gvL j [] = [] := rfl
theorem gvL_no {j : Nat} {t : Tok} {r : List Tok} (h : t.due = false) : gvL j (t :: r) = t :: gvL j r := by
 cases j with
 | zero=>rw [gvL_z,gvL_z]
 | succ j=>rw [gvL_c]; simp [h]
theorem gvL_ids : ∀ (l : List Tok) (j : Nat),((gvL j l).map (·.id)).Sublist (l.map (·.id))
 | [],j=>by rw [gvL_nil]; exact List.Sublist.refl _
 | t :: r,0=>by rw [gvL_z]; exact List.Sublist.refl _
 | t :: r,j + 1=>by
   rw [gvL_c]
   split
   · split
     · exact (gvL_ids r j).cons _
     · exact (gvL_ids r j).cons_cons _
   · exact (gvL_ids r (j + 1)).cons_cons _
theorem Srt_iff (l : List Tok) : Srt l ↔ (l.map (·.id)).Pairwise (· < ·) := by
 unfold Srt
 rw [List.pairwise_map]
theorem gvL_srt {l : List Tok} (h : Srt l) (j : Nat) : Srt (gvL j l) := by
 rw [Srt_iff] at h ⊢
 exact h.sublist (gvL_ids l j)
theorem gvL_len (l : List Tok) (j : Nat) : (gvL j l).length ≤ l.length := by
 have:=(gvL_ids l j).length_le
 simpa using this
theorem bckT_gone (t : Tok) : (bckT t).gone = (t.want == 0) := by simp [bckT,Tok.gone]
theorem gvL_step : ∀ {l : List Tok} {j : Nat} {t : Tok} (_ : Srt l) (_ : (dues l)[j]? = some t),fnd t.id (gvL j l) = some t ∧ ∀ g,putL (bckT t) g (gvL j l) = if g = (t.want == 0) then gvL (j + 1) l else putL (bckT t) g (gvL j l)
 | [],j,t,_,h=>by simp [dues] at h
 | x :: r, j, t, hs, h => by
   have hr:=(List.pairwise_cons.1 hs).2
   have hlt : ∀ y ∈ r,x.id < y.id:=(List.pairwise_cons.1 hs).1
   cases hd : x.due with
   | false =>
     have h' : (dues r)[j]? = some t:=by simpa [dues,hd] using h
     have hm : t ∈ r:=(List.mem_filter.1 (List.mem_of_getElem? h')).1
     obtain ⟨h1,h2⟩:=gvL_step hr h'
     have hx:=hlt t hm
     rw [gvL_no hd]
     refine ⟨by rw [fnd,if_neg (by omega)]; exact h1,fun g=>?_⟩
     split
     · rename_i hg
       have h2:=h2 g
       rw [if_pos hg] at h2
       rw [putL,if_neg (by simp only [bckT]; omega),if_neg (by simp only [bckT]; omega),show (g || decide ((bckT t).id ≤ x.id)) = g by rw [decide_eq_false (by simp only [bckT]; omega),Bool.or_false],h2,gvL_no hd]
       rfl
     · rfl
   | true =>
     cases j with
     | zero =>
       have : x = t:=by simpa [dues,hd] using h
       subst this
       refine ⟨by rw [gvL_z,fnd,if_pos rfl],fun g=>?_⟩
       split
       · rename_i hg
         rw [gvL_z,gvL_c,gvL_z,putL,show (g || decide ((bckT x).id ≤ x.id)) = true by simp [bckT],putL_gt (by simpa [bckT] using hlt)]
         rw [if_pos hd,if_pos (show x.id = (bckT x).id from rfl)]
         by_cases hw : x.want = 0
         · rw [if_pos hw,if_neg (by simp [hg,hw])]
           rfl
         · rw [if_neg hw,if_pos ⟨by simp [hg,hw],by simp [bckT]⟩]
           rfl
       · rfl
     | succ j =>
       have h' : (dues r)[j]? = some t:=by simpa [dues,hd] using h
       have hm : t ∈ r:=(List.mem_filter.1 (List.mem_of_getElem? h')).1
       obtain ⟨h1,h2⟩:=gvL_step hr h'
       have hx:=hlt t hm
       have e1 : gvL (j + 1) (x :: r) = if x.want = 0 then gvL j r else bckT x :: gvL j r:=by rw [gvL_c,if_pos hd]
       have e2 : gvL (j + 1 + 1) (x :: r) = if x.want = 0 then gvL (j + 1) r else bckT x :: gvL (j + 1) r:=by rw [gvL_c,if_pos hd]
       rw [e1,e2]
       by_cases hw : x.want = 0
       · rw [if_pos hw,if_pos hw]
         exact ⟨h1,h2⟩
       · rw [if_neg hw,if_neg hw]
         refine ⟨by rw [fnd,if_neg (by simp only [bckT]; omega)]; exact h1,fun g=>?_⟩
         split
         · rename_i hg
           have h2:=h2 g
           rw [if_pos hg] at h2
           rw [putL,if_neg (by simp only [bckT]; omega),if_neg (by simp only [bckT]; omega),show (g || decide ((bckT t).id ≤ (bckT x).id)) = g by rw [decide_eq_false (by simp only [bckT]; omega),Bool.or_false],h2]
           rfl
         · rfl
theorem gvL_put {l : List Tok} {j : Nat} {t : Tok} (hs : Srt l) (h : (dues l)[j]? = some t) : put (bckT t) (gvL j l) = gvL (j + 1) l := by
 have:=(gvL_step hs h).2 (t.want == 0)
 rw [if_pos rfl] at this
 rw [put,bckT_gone,this]
theorem gvL_fnd {l : List Tok} {j : Nat} {t : Tok} (hs : Srt l) (h : (dues l)[j]? = some t) : fnd t.id (gvL j l) = some t := (gvL_step hs h).1
def unpinT (t : Tok) : Tok := { t with pin := false }
noncomputable def unpL : List Tok → List Tok
 | []=>[]
 | t :: r=>if t.due = true then (if t.want = 0 then unpL r else bckT t :: unpL r) else unpinT t :: unpL r
theorem gvL_end : ∀ l : List Tok,(gvL (dues l).length l).map unpinT = unpL l
 | []=>by simp [gvL_nil,unpL]
 | t :: r=>by
   have ih:=gvL_end r
   cases hd : t.due with
   | false =>
     rw [show dues (t :: r) = dues r by simp [dues,hd],gvL_no hd,List.map_cons,ih]
     simp [unpL,hd]
   | true =>
     rw [show (dues (t :: r)).length = (dues r).length + 1 by simp [dues,hd],gvL_c,if_pos hd,unpL,if_pos hd]
     split
     · exact ih
     · rw [List.map_cons,ih]; rfl
noncomputable def unpM (nd : Int) (l : List Tok) (hs : List Int) : List Msg := List.zipWith (fun t h => bckM nd t h) (dues l) hs
def badH (l : List Tok) (hs : List Int) : Bool := (dues l).length != hs.length || decide (0 ≤ idxN 0 hs)
noncomputable def unp (d : Tks) (hs : List Int) : Int × List Tok × List Msg × Int :=
 if valid d.node d.toks = false then (0,[],[],1) else if badH d.toks hs = true then (0,[],[],2) else (d.node,unpL d.toks,unpM d.node d.toks hs,0)
theorem AVil {n : Nat} {a b : {l : List Int // l.length ≤ 9000}} (h : AV.list n (a.1.map iC) = AV.list n (b.1.map iC)) : a = b := Subtype.ext (map_inj' (fun x y h => by
 simp only [iC,List.cons.injEq,AV.int.injEq,true_and,and_true] at h
 exact h) (AVl h))
noncomputable def unpsR (d : Tks) (hs : {l : List Int // l.length ≤ 9000}) : AV := rU (unp d hs.1).1 (unp d hs.1).2.1 (unp d hs.1).2.2.1 (unp d hs.1).2.2.2
noncomputable def unpsS : SpecFn := mkS (fun p : Tks × {l : List Int // l.length ≤ 9000} => [p.1.v, .list 1 (p.2.1.map iC)]) fun p => (unpsR p.1 p.2,[])
theorem unps_eq (dn : Int) (dl : List Tok) (dh : dl.length ≤ 9000) (hs : List Int) (hsh : hs.length ≤ 9000) : unpsS [.agg [.int .i64 dn, .list 41 (dl.map Tok.c)], .list 1 (hs.map iC)] [] = some (unpsR ((⟨dn,dl,dh⟩ : Tks)) ((⟨hs,hsh⟩ : {l : List Int // l.length ≤ 9000})),[]) :=
 mkS_eq (enc:=fun p : Tks × {l : List Int // l.length ≤ 9000}=>[p.1.v, .list 1 (p.2.1.map iC)]) (res:=fun p=>(unpsR p.1 p.2,[])) (fun x y h=>by
   obtain ⟨a0,a1⟩:=x
   obtain ⟨b0,b1⟩:=y
   obtain ⟨h0,h⟩:=List.cons.inj h
   obtain ⟨h1,h⟩:=List.cons.inj h
   have e0:=Tks.v_inj h0
   subst e0
   have e1:=AVil h1
   subst e1
   rfl) ((⟨dn,dl,dh⟩ : Tks),(⟨hs,hsh⟩ : {l : List Int // l.length ≤ 9000}))
end
section
theorem putL_mid {t x : Tok} : ∀ (A D : List Tok) (g : Bool),(∀ y ∈ A,y.id < t.id) → x.id = t.id → (∀ y ∈ D,t.id < y.id) → putL t g (A ++ x :: D) = A ++ ((if g = true then [] else [t]) ++ D)
 | [],D,g,_,hx,hD=>by
   rw [List.nil_append,putL,if_pos hx,show (g || decide (t.id ≤ x.id)) = true by simp; right; omega,putL_gt hD]
   cases g with
   | true=>rfl
   | false=>rw [if_pos ⟨rfl,by omega⟩]; rfl
 | y :: A,D,g,hA,hx,hD=>by
   have hy:=hA y (by simp)
   rw [List.cons_append,putL,if_neg (by omega),if_neg (by omega),show (g || decide (t.id ≤ y.id)) = g by rw [decide_eq_false (by omega),Bool.or_false],putL_mid A D g (fun z hz=>hA z (by simp [hz])) hx hD]
   rfl
theorem unpL_app : ∀ A B : List Tok,unpL (A ++ B) = unpL A ++ unpL B
 | [],B=>rfl
 | t :: A,B=>by
   rw [List.cons_append,unpL,unpL,unpL_app A B]
   split
   · split <;> rfl
   · rfl
theorem unpL_ids : ∀ (l : List Tok) (y : Tok),y ∈ unpL l → ∃ x ∈ l,x.id = y.id
 | [],y,h=>by simp [unpL] at h
 | t :: r,y,h=>by
   rw [unpL] at h
   split at h
   · split at h
     · obtain ⟨x,h1,h2⟩:=unpL_ids r y h
       exact ⟨x,by simp [h1],h2⟩
     · rcases List.mem_cons.1 h with h | h
       · exact ⟨t,by simp,by rw [h]; simp only [bckT]⟩
       · obtain ⟨x,h1,h2⟩:=unpL_ids r y h
         exact ⟨x,by simp [h1],h2⟩
   · rcases List.mem_cons.1 h with h | h
     · exact ⟨t,by simp,by rw [h]; simp only [unpinT]⟩
     · obtain ⟨x,h1,h2⟩:=unpL_ids r y h
       exact ⟨x,by simp [h1],h2⟩
theorem take_app {l : List Tok} {k : Nat} {x : Tok} (hx : l[k]? = some x) : l.take (k + 1) = l.take k ++ [x] := by
 rw [List.take_add_one,hx]; rfl
theorem unpM_len {nd : Int} {l : List Tok} {hs : List Int} (h : (dues l).length ≤ hs.length) : (unpM nd l hs).length = (dues l).length := by
 unfold unpM
 rw [List.length_zipWith]
 omega
theorem dues_take_le (l : List Tok) (k : Nat) : (dues (l.take k)).length ≤ k := by
 refine Nat.le_trans (List.length_filter_le _ _) ?_
 rw [List.length_take]
 omega
end
section
attribute [local simp] instA
attribute [-simp] mkv
attribute [local simp] mkv_hd hdA_cons hdA_ob hdA_ob'
def msB (g : Nat) (l : List Msg) : ABlk := { gen := g,kind := 2,elem := 75,size := 45,inl := true,rows := l.map Msg.v }
def IsM (id : Nat) (h : NL ABlk) (P : AV) (l : List Msg) : Prop := (P = .nils ∧ l = []) ∨ ∃ g,P = .sl id g 0 l.length ∧ lk h id = some (msB g l)
def tkC (nd : Int) (g : Nat) (l : List Tok) : ABlk := { gen := g,kind := 2,elem := 30,size := 2,inl := false,rows := [[.int .i64 nd, .list 41 (l.map Tok.c)]] }
theorem unps_nrm (p : Tks × {l : List Int // l.length ≤ 9000}) : nrmR Try.prog [30,61,38] (unpsR p.1 p.2) = unpsR p.1 p.2 := rU_nrm _ _ _ _
theorem idxN_bad : ∀ (hs : List Int) (k : Nat),decide (0 ≤ idxN k hs) = hs.any fun h => !okN h
 | [],k=>by simp [idxN]
 | h :: r,k=>by
   rw [idxN,List.any_cons]
   cases ho : okN h with
   | false=>simp
   | true=>rw [if_neg (by simp)]; simp [idxN_bad r (k + 1)]
def unfl (l : List Tok) (hs : List Int) (k : Nat) : Bool := (((dues l).length : Int) != (hs.length : Int)) || (hs.take k).any fun h => !okN h
theorem unfl_end (l : List Tok) (hs : List Int) : unfl l hs hs.length = badH l hs := by
 rw [unfl,badH,idxN_bad,List.take_length]
 congr 1
 by_cases e : (dues l).length = hs.length
 · simp [e]
 · rw [bne_iff_ne.2 e,bne_iff_ne.2 (by omega)]
end
section
attribute [local simp] instA
attribute [-simp] mkv
attribute [local simp] mkv_hd hdA_cons hdA_ob hdA_ob'
noncomputable def ctnR (l : {l : List Int // l.length ≤ 9000}) : AV := .bool (decide (0 ≤ idxN 0 l.1))
noncomputable def ctnS : SpecFn := mkS (fun p : {l : List Int // l.length ≤ 9000} => [.list 1 (p.1.map iC), .fn (.func 41) [] []]) fun p => (ctnR p,[])
theorem ctn_eq (l : List Int) (lh : l.length ≤ 9000) : ctnS [.list 1 (l.map iC), .fn (.func 41) [] []] [] = some (ctnR ((⟨l,lh⟩ : {l : List Int // l.length ≤ 9000})),[]) :=
 mkS_eq (enc:=fun p : {l : List Int // l.length ≤ 9000}=>[.list 1 (p.1.map iC), .fn (.func 41) [] []]) (res:=fun p=>(ctnR p,[])) (fun x y h=>by
   obtain ⟨h0,h⟩:=List.cons.inj h
   obtain ⟨h1,h⟩:=List.cons.inj h
   have e0:=AVil h0
   subst e0
   rfl) ((⟨l,lh⟩ : {l : List Int // l.length ≤ 9000}))
noncomputable def ctn_specs : NL Spec := [(70,⟨1,xnS⟩)]
theorem ctn_specs_ok : ∀ p ∈ ctn_specs,FnC Try.prog p.1 p.2.fn := by
 simp only [ctn_specs,List.mem_cons,List.not_mem_nil,or_false]
 rintro p rfl
 exact xn_ok
theorem xn_eq (l : List Int) (lh : l.length ≤ 9000) : xnS [.list 1 (l.map iC), .fn (.func 41) [] []] [] = some (.int .i64 (idxN 0 l),[]) :=
 mkS_eq (enc:=fun d : {l : List Int // l.length ≤ 9000}=>[.list 1 (d.1.map iC), .fn (.func 41) [] []]) (res:=fun d=>(.int .i64 (idxN 0 d.1),[])) (fun x y h=>by
   simp only [List.cons.injEq,and_true] at h
   rw [AVil h]) ⟨l,lh⟩
attribute [local simp] ctn_specs
theorem ctn_ok : FnC Try.prog 42 ctnS := by
 refine FnC.walk 42 (fn:=Try.f42) Try.func42 rfl (by kernel_rfl) fun p=>?_
 obtain ⟨l,lh⟩:=p
 change W _ (Ret _ _ (ctnR (⟨l,lh⟩ : {l : List Int // l.length ≤ 9000})) []) _ _ ⟨9,[(0, .list 1 (l.map iC)),(1, .fn (.func 41) [] [])],[]⟩
 have cf:=xn_eq l lh
 repeat' (first | intro (hb : _ = _) | refine ZV ?_ | refine ZB tm ctn_specs_ok ?_ | refine ZH ?_ ?_ | refine ZJ (by conv=>lhs; simp [cf]) ?_ | refine ZA ?_ ?_)
 all_goals (first | refine Yd ?_ | refine Ye ?_)
 all_goals (first | rfl | (simp [ctnR]; done) | (simp_all [ctnR]; done) | (simp_all [ctnR]; omega))
def uC (m : Int) : List AV := [.int .u64 m]
def idB (g : Nat) (l : List Int) : ABlk := { gen := g,kind := 2,elem := 41,size := 1,inl := true,rows := l.map uC }
def IsU (id : Nat) (h : NL ABlk) (P : AV) (l : List Int) : Prop := (P = .nils ∧ l = []) ∨ ∃ g,P = .sl id g 0 l.length ∧ lk h id = some (idB g l)
theorem zip_take {nd : Int} {l : List Tok} {hs : List Int} {j : Nat} {t : Tok} {m : Int} (ht : (dues l)[j]? = some t) (hm : hs[j]? = some m) : (unpM nd l hs).take (j + 1) = (unpM nd l hs).take j ++ [bckM nd t m] := by
 rw [List.take_add_one]
 congr 1
 unfold unpM
 rw [List.getElem?_zipWith,ht,hm]
 rfl
def midL (C : List Tok) (k : Nat) : List Tok := (C.take k).map unpinT ++ C.drop k
theorem midL_len (C : List Tok) (k : Nat) : (midL C k).length = C.length := by simp [midL]; omega
theorem midL_get {C : List Tok} {k : Nat} {x : Tok} (h : C[k]? = some x) : (midL C k)[k]? = some x := by
 obtain ⟨hk,he⟩:=List.getElem?_eq_some_iff.1 h
 rw [midL,List.getElem?_append_right (by simp; omega)]
 simp only [List.length_map,List.length_take,List.getElem?_drop]
 rw [show k + (k - min k C.length) = k by omega,h]
theorem midL_set {C : List Tok} {k : Nat} {x : Tok} (h : C[k]? = some x) : (midL C k).set k (unpinT x) = midL C (k + 1) := by
 obtain ⟨hk,he⟩:=List.getElem?_eq_some_iff.1 h
 have h1 : (List.map unpinT (List.take k C)).length = k:=by simp; omega
 have e : C.drop k = x :: C.drop (k + 1):=by rw [List.drop_eq_getElem_cons hk,he]
 rw [midL,midL,List.set_append_right _ _ (by omega),h1,Nat.sub_self,e,List.take_add_one,h]
 simp
noncomputable def unq_specs : NL Spec := [(18,⟨1,vaS⟩),(42,⟨1,ctnS⟩),(28,⟨1,cp2S⟩),(40,⟨1,gvpS⟩)]
theorem unq_specs_ok : ∀ p ∈ unq_specs,FnC Try.prog p.1 p.2.fn := by
 simp only [unq_specs,List.mem_cons,List.not_mem_nil,or_false]
 rintro p (rfl | rfl | rfl | rfl)
 · exact vap_ok
 · exact ctn_ok
 · exact cp2_ok
 · exact gvp_ok
attribute [local simp] unq_specs
theorem unq_ok : FnC Try.prog 17 unpsS := by
 refine FnC.walkN 17 (fn:=Try.f17) [30,61,38] Try.func17 rfl (by kernel_rfl) (fun p=>?_) (fun p=>⟨_,unps_nrm p⟩)
 obtain ⟨⟨nd,l,hl⟩,⟨hs,hhs⟩⟩:=p
 have cv:=vaS_eq ⟨nd,l,hl⟩
 have cc:=cp2_eq nd l hl
 have cn:=ctn_eq hs hhs
 simp only [Tks.v,tkB0] at cv cc
 change W _ (RetNf _ _ _ (unpsR ⟨nd,l,hl⟩ ⟨hs,hhs⟩) []) _ _ ⟨87,[(0, .agg [.int .i64 nd, .list 41 (l.map Tok.c)]),(1, .list 1 (hs.map iC))],[]⟩
 unfold unpsR
 generalize hR : unp ⟨nd,l,hl⟩ hs = R
 unfold unp at hR
 dsimp only at hR
 have cap : l.length ≤ 9223372036854775807:=by omega
 have caph : hs.length ≤ 9223372036854775807:=by omega
 cases hv : valid nd l with
 | false =>
   rw [if_pos hv] at hR
   subst hR
   rw [hv] at cv
   repeat' (first | intro (hb : _ = _) | refine ZV ?_ | refine ZB tm unq_specs_ok ?_ | refine ZH ?_ ?_ | refine ZJ (by conv=>lhs; simp [cv]) ?_ | refine ZA ?_ ?_)
   refine Ye (rU_nrm0 1)
 | true =>
   rw [if_neg (by simp [hv])] at hR
   rw [hv] at cv
   have srt:=valid_srt hv
   repeat' (first | intro (hb : _ = _) | refine ZV ?_ | refine ZB tm unq_specs_ok ?_ | refine ZH ?_ ?_ | refine ZJ (by conv=>lhs; simp [cv,cap]) ?_ | refine ZA ?_ ?_)
   refine W.loop rfl (ι:={ q : Nat × NL ABlk × AV // q.1 ≤ l.length ∧ lk q.2.1 48 = some (tkC nd 1 l) ∧ lk q.2.1 80 = some { gen:=1,kind:=2,elem:=30,size:=2,inl:=false,rows:=[[.int .i64 0, .nils]] } ∧ IsU 576 q.2.1 q.2.2 ((dues (l.take q.1)).map (·.id)) })
     (fun q=>⟨87,[(1, .list 1 (hs.map iC)),(2, .ptr 48 1 0 0),(4, .ptr 80 1 0 0),(7,q.1.2.2),(23, .list 41 (l.map Tok.c)),(24, .int .i64 l.length),(25, .int .i64 (q.1.1 : Nat))],q.1.2.1⟩) (fun q=>l.length - q.1.1)
     ⟨(0,_, .nils),by simp,rfl,rfl, .inl ⟨rfl,rfl⟩⟩ (AS.le_of rfl ⟨rfl,rfl,rfl,rfl,rfl,rfl,rfl,trivial⟩ (fun _=>rfl)) ?_
   rintro ⟨⟨k,h,P⟩,hk,h1,h2,hP⟩
   dsimp only at hk h1 h2 hP ⊢
   by_cases hk2 : k = l.length
   · subst hk2
     rw [List.take_length] at hP
     have hdl : (dues l).length ≤ 9000:=Nat.le_trans (List.length_filter_le _ _) hl
     refine W.accD 7 (id:=576) (s:=1) (e:=41) (l:=((dues l).map (·.id)).map uC) rfl (by
       rcases hP with ⟨a,b⟩ | ⟨g,a,b⟩
       · exact .inl ⟨a,by rw [b]; rfl⟩
       · exact .inr ⟨g,by rw [List.length_map]; exact a,b⟩) fun H' hH=>?_
     rw [← hH 48 (by decide)] at h1
     rw [← hH 80 (by decide)] at h2
     clear hP hk
     have b1 : badH l hs = ((((dues l).length : Int) != (hs.length : Int)) || decide (0 ≤ idxN 0 hs)):=by
       rw [← unfl_end,unfl,List.take_length,idxN_bad]
     repeat' (first | intro (hb : _ = _) | refine ZV ?_ | refine ZB tm unq_specs_ok ?_ | refine ZH ?_ ?_ | refine ZJ (by conv=>lhs; simp [h1,h2,tkC,cn,ctnR,caph,cc,cap]) ?_ | refine ZA ?_ ?_)
     · have hbad : badH l hs = true:=by rw [b1,Bool.or_eq_true]; exact .inl hb
       rw [if_pos hbad] at hR
       subst hR
       refine Ye (rU_nrm0 2)
     · have hbad : badH l hs = true:=by rw [b1,Bool.or_eq_true]; exact .inr hb
       rw [if_pos hbad] at hR
       subst hR
       refine Ye (rU_nrm0 2)
     · have hbad : badH l hs = false:=by rw [b1,Bool.or_eq_false_iff]; exact ⟨by assumption,hb⟩
       rw [if_neg (by simp [hbad])] at hR
       have hbd : (dues l).length = hs.length:=by
         simp only [badH,Bool.or_eq_false_iff] at hbad
         simpa using hbad.1
       obtain ⟨n,hn⟩ : ∃ n,(dues l).length = n:=⟨_,rfl⟩
       have capn : n ≤ 9223372036854775807:=by omega
       refine W.loop rfl (ι:={ q : Nat × NL ABlk × AV × Nat × Nat × Nat // q.1 ≤ n ∧ lk q.2.1 80 = some { gen:=1,kind:=2,elem:=30,size:=2,inl:=false,rows:=[[.int .i64 0, .nils]] } ∧ lk q.2.1 192 = some { gen:=q.2.2.2.2.2,kind:=2,elem:=30,size:=2,inl:=false,rows:=[[.int .i64 nd, .sl q.2.2.2.1 q.2.2.2.2.1 0 (gvL q.1 l).length]] } ∧ (q.2.2.2.1 = 800 ∨ q.2.2.2.1 = 1040) ∧ lk q.2.1 q.2.2.2.1 = some (tkB q.2.2.2.2.1 (gvL q.1 l)) ∧ IsM 1152 q.2.1 q.2.2.1 ((unpM nd l hs).take q.1) })
         (fun q=>⟨87,[(1, .list 1 (hs.map iC)),(4, .ptr 80 1 0 0),(11, .ptr 192 q.1.2.2.2.2.2 0 0),(12,q.1.2.2.1),(50, .list 1 (List.map (uC ∘ fun x=>x.id) (dues l))),(51, .int .i64 (dues l).length),(52, .int .i64 (q.1.1 : Nat))],q.1.2.1⟩) (fun q=>n - q.1.1)
         ⟨(0,_, .nils,800,((lk H' 800).getD {}).gen + 1,((lk H' 192).getD {}).gen + 1),by simp,by simp [lk_st,h2],by simp [lk_st,gvL_z], .inl rfl,by simp [lk_st,tkB,gvL_z], .inl ⟨rfl,rfl⟩⟩ (AS.le_of rfl ⟨rfl,rfl,rfl,rfl,rfl,rfl,rfl,trivial⟩ (fun _=>rfl)) ?_
       clear h1 h2 cc
       rintro ⟨⟨j,h,M,X,gx,gc⟩,hj,h2,h3,hX,h4,hM⟩
       dsimp only at hj h2 h3 hX h4 hM ⊢
       by_cases hj2 : j = n
       · subst hj2
         have hgl:=gvL_len l (dues l).length
         rw [hn] at hgl
         have hend:=gvL_end l
         rw [hn] at hend
         have hms : (unpM nd l hs).take j = unpM nd l hs:=List.take_of_length_le (by rw [unpM_len (by omega)]; omega)
         rw [hms] at hM
         subst hR
         rw [← hend]
         generalize gvL j l = C at *
         generalize unpM nd l hs = ms at *
         have capC : C.length ≤ 9223372036854775807:=by omega
         rw [hn]
         refine W.accD 12 (id:=1152) (s:=45) (e:=75) (l:=ms.map Msg.v) rfl (by
           rcases hM with ⟨a,b⟩ | ⟨g,a,b⟩
           · exact .inl ⟨a,by rw [b]; rfl⟩
           · exact .inr ⟨g,by rw [List.length_map]; exact a,b⟩) fun H2 hH2=>?_
         rw [← hH2 80 (by decide)] at h2
         rw [← hH2 192 (by decide)] at h3
         rw [← hH2 X (by omega)] at h4
         clear hH2 hM
         rcases hX with rfl | rfl
         · repeat' (first | intro (hb : _ = _) | refine ZV ?_ | refine ZB tm unq_specs_ok ?_ | refine ZH ?_ ?_ | refine ZJ (by conv=>lhs; simp [h3,h4,capC,tkB,take_acc]) ?_ | refine ZA ?_ ?_)
           refine W.loop rfl (ι:={ q : Nat × NL ABlk // q.1 ≤ C.length ∧ lk q.2 80 = some { gen:=1,kind:=2,elem:=30,size:=2,inl:=false,rows:=[[.int .i64 0, .nils]] } ∧ lk q.2 192 = some { gen:=gc,kind:=2,elem:=30,size:=2,inl:=false,rows:=[[.int .i64 nd, .sl 800 gx 0 C.length]] } ∧ lk q.2 800 = some (tkB gx (midL C q.1)) })
             (fun q=>⟨87,[(4, .ptr 80 1 0 0),(11, .ptr 192 gc 0 0),(12, .list 45 (ms.map Msg.v)),(75, .int .i64 C.length),(76, .int .i64 (q.1.1 : Nat))],q.1.2⟩) (fun q=>C.length - q.1.1)
             ⟨(0,_),by simp,h2,h3,by simp [midL]; exact h4⟩ (AS.le_of rfl ⟨rfl,rfl,rfl,rfl,rfl,trivial⟩ (fun _=>rfl)) ?_
           clear h2 h3 h4
           rintro ⟨⟨k,h⟩,hk,h2,h3,h4⟩
           dsimp only at hk h2 h3 h4 ⊢
           by_cases hk2 : k = C.length
           · subst hk2
             have e : midL C C.length = C.map unpinT:=by simp [midL]
             rw [e] at h4
             have tl : ∀ L : List Tok,(List.map Tok.c (List.map unpinT L)).take L.length = List.map Tok.c (List.map unpinT L):=fun L=>List.take_of_length_le (by simp)
             repeat' (first | intro (hb : _ = _) | refine ZV ?_ | refine ZB tm unq_specs_ok ?_ | refine ZH ?_ ?_ | refine ZJ (by conv=>lhs; simp [h2,h3,h4,tkB]) ?_ | refine ZA ?_ ?_)
             refine RetNf.dataE rfl (by conv=>lhs; simp) (by conv=>lhs; simp [h4,tkB,tl]) (by first | rfl | simp [inlT,inlV]) ?_
             refine (congrArg (nrmR Try.prog [30,61,38]) ?_).trans (rU_nrm nd (C.map unpinT) ms 0)
             simp [rU]
             exact List.take_of_length_le (by simp)
           · have hlt : k < C.length:=by omega
             obtain ⟨x,hr⟩:=get_lt hlt
             have hm : ((midL C k).map Tok.c)[k]? = some x.c:=by rw [List.getElem?_map,midL_get hr]; rfl
             have hst:=midL_set hr
             have hst2 : ((midL C k).map Tok.c).set k (unpinT x).c = (midL C (k + 1)).map Tok.c:=by rw [← hst,List.map_set]
             have hml:=midL_len C k
             have q1 : (k : Int) < C.length:=by omega
             have q2 : ¬ C.length ≤ k:=by omega
             have hw : IntKind.i64.wrap ((k : Int) + 1) = ((k + 1 : Nat) : Int):=w64 (by omega) (by omega)
             clear hst hlt hk2
             generalize hC1 : midL C (k + 1) = C1 at *
             generalize midL C k = C0 at *
             obtain ⟨a1,a2,o,a3,a4,a5⟩:=x
             simp only [Tok.c,unpinT] at hm hst2
             repeat' (first | intro (hb : _ = _) | refine ZV ?_ | refine ZB tm unq_specs_ok ?_ | refine ZH ?_ ?_ | refine ZJ (by conv=>lhs; simp [q1,q2,hm,hw,h3,h4,tkB,hml,hst2]) ?_ | refine ZA ?_ ?_)
             exact ⟨⟨(k + 1,_),by dsimp only; omega,by simp [lk_st,h2],by simp [lk_st,h3],by simp [lk_st,tkB,hC1]⟩,by dsimp only; omega,AS.le_of rfl ⟨rfl,rfl,rfl,rfl,rfl,trivial⟩ (fun _=>rfl)⟩
         · repeat' (first | intro (hb : _ = _) | refine ZV ?_ | refine ZB tm unq_specs_ok ?_ | refine ZH ?_ ?_ | refine ZJ (by conv=>lhs; simp [h3,h4,capC,tkB,take_acc]) ?_ | refine ZA ?_ ?_)
           refine W.loop rfl (ι:={ q : Nat × NL ABlk // q.1 ≤ C.length ∧ lk q.2 80 = some { gen:=1,kind:=2,elem:=30,size:=2,inl:=false,rows:=[[.int .i64 0, .nils]] } ∧ lk q.2 192 = some { gen:=gc,kind:=2,elem:=30,size:=2,inl:=false,rows:=[[.int .i64 nd, .sl 1040 gx 0 C.length]] } ∧ lk q.2 1040 = some (tkB gx (midL C q.1)) })
             (fun q=>⟨87,[(4, .ptr 80 1 0 0),(11, .ptr 192 gc 0 0),(12, .list 45 (ms.map Msg.v)),(75, .int .i64 C.length),(76, .int .i64 (q.1.1 : Nat))],q.1.2⟩) (fun q=>C.length - q.1.1)
             ⟨(0,_),by simp,h2,h3,by simp [midL]; exact h4⟩ (AS.le_of rfl ⟨rfl,rfl,rfl,rfl,rfl,trivial⟩ (fun _=>rfl)) ?_
           clear h2 h3 h4
           rintro ⟨⟨k,h⟩,hk,h2,h3,h4⟩
           dsimp only at hk h2 h3 h4 ⊢
           by_cases hk2 : k = C.length
           · subst hk2
             have e : midL C C.length = C.map unpinT:=by simp [midL]
             rw [e] at h4
             have tl : ∀ L : List Tok,(List.map Tok.c (List.map unpinT L)).take L.length = List.map Tok.c (List.map unpinT L):=fun L=>List.take_of_length_le (by simp)
             repeat' (first | intro (hb : _ = _) | refine ZV ?_ | refine ZB tm unq_specs_ok ?_ | refine ZH ?_ ?_ | refine ZJ (by conv=>lhs; simp [h2,h3,h4,tkB]) ?_ | refine ZA ?_ ?_)
             refine RetNf.dataE rfl (by conv=>lhs; simp) (by conv=>lhs; simp [h4,tkB,tl]) (by first | rfl | simp [inlT,inlV]) ?_
             refine (congrArg (nrmR Try.prog [30,61,38]) ?_).trans (rU_nrm nd (C.map unpinT) ms 0)
             simp [rU]
             exact List.take_of_length_le (by simp)
           · have hlt : k < C.length:=by omega
             obtain ⟨x,hr⟩:=get_lt hlt
             have hm : ((midL C k).map Tok.c)[k]? = some x.c:=by rw [List.getElem?_map,midL_get hr]; rfl
             have hst:=midL_set hr
             have hst2 : ((midL C k).map Tok.c).set k (unpinT x).c = (midL C (k + 1)).map Tok.c:=by rw [← hst,List.map_set]
             have hml:=midL_len C k
             have q1 : (k : Int) < C.length:=by omega
             have q2 : ¬ C.length ≤ k:=by omega
             have hw : IntKind.i64.wrap ((k : Int) + 1) = ((k + 1 : Nat) : Int):=w64 (by omega) (by omega)
             clear hst hlt hk2
             generalize hC1 : midL C (k + 1) = C1 at *
             generalize midL C k = C0 at *
             obtain ⟨a1,a2,o,a3,a4,a5⟩:=x
             simp only [Tok.c,unpinT] at hm hst2
             repeat' (first | intro (hb : _ = _) | refine ZV ?_ | refine ZB tm unq_specs_ok ?_ | refine ZH ?_ ?_ | refine ZJ (by conv=>lhs; simp [q1,q2,hm,hw,h3,h4,tkB,hml,hst2]) ?_ | refine ZA ?_ ?_)
             exact ⟨⟨(k + 1,_),by dsimp only; omega,by simp [lk_st,h2],by simp [lk_st,h3],by simp [lk_st,tkB,hC1]⟩,by dsimp only; omega,AS.le_of rfl ⟨rfl,rfl,rfl,rfl,rfl,trivial⟩ (fun _=>rfl)⟩
       · have hlt : j < n:=by omega
         obtain ⟨t,ht⟩:=get_lt (l:=dues l) (i:=j) (by omega)
         obtain ⟨m,hh⟩:=get_lt (l:=hs) (i:=j) (by omega)
         have hhm : (hs.map iC)[j]? = some [.int .i64 m]:=by rw [List.getElem?_map,hh]; rfl
         have htm : (List.map (uC ∘ fun x=>x.id) (dues l))[j]? = some [.int .u64 t.id]:=by rw [List.getElem?_map,ht]; rfl
         have q1 : (j : Int) < n:=by omega
         have q3 : (j : Int) < hs.length:=by omega
         have q2 : ¬ n ≤ j:=by omega
         have q4 : ¬ hs.length ≤ j:=by omega
         have hw : IntKind.i64.wrap ((j : Int) + 1) = ((j + 1 : Nat) : Int):=w64 (by omega) (by omega)
         have hl3:=Nat.le_trans (gvL_len l j) hl
         have cg:=gvp_eq nd (gvL j l) hl3 t.id m t (gvL_srt srt j) (gvL_fnd srt ht)
         rw [gvL_put srt ht] at cg
         have zt:=zip_take (nd:=nd) ht hh
         have zl : ((unpM nd l hs).take j).length = j:=by
           rw [List.length_take,unpM_len (by omega)]
           omega
         generalize bckM nd t m = N at *
         generalize hC : gvL j l = C at *
         generalize hC1 : gvL (j + 1) l = C1 at *
         generalize (unpM nd l hs).take j = ms at *
         generalize t.id = tid at *
         obtain ⟨c1,c2,c3,c4,c5,p,c6,c7,c8,c9⟩:=N
         simp only [tkB0,Msg.v] at cg
         have y0 : ms.length ≤ 9000:=by omega
         have y1 : ms.length ≤ maxLen:=by simp only [maxLen]; omega
         have y2 : (ms.length + 1) * 536 ≤ 140737488355328:=by omega
         have y4 : ms.length + 1 ≤ maxLen:=by simp only [maxLen]; omega
         rw [hn]
         clear hlt hj2 y0 b1
         rcases hX with rfl | rfl <;> rcases hM with ⟨rfl,rfl⟩ | ⟨gm,rfl,hmm⟩
         · repeat' (first | intro (hb : _ = _) | refine ZV ?_ | refine ZB tm unq_specs_ok ?_ | refine ZH ?_ ?_ | refine ZJ (by conv=>lhs; simp [q1,q2,q3,q4,hhm,htm,hw,h3,h4,tkB,cg,m1,take_acc]) ?_ | refine ZA ?_ ?_)
           exact ⟨⟨(j + 1,_, .sl 1152 (((lk h 1152).getD {}).gen + 1) 0 1,1040,((lk h 1040).getD {}).gen + 1,gc),by dsimp only; omega,by simp [lk_st,h2],by simp [lk_st,hC1], .inr rfl,by simp [lk_st,hC1,tkB], .inr ⟨_,by dsimp only; rw [zt]; rfl,by dsimp only; rw [zt]; simp [lk_st,msB]⟩⟩,by dsimp only; omega,AS.le_of rfl ⟨rfl,rfl,rfl,rfl,rfl,rfl,rfl,trivial⟩ (fun _=>rfl)⟩
         · repeat' (first | intro (hb : _ = _) | refine ZV ?_ | refine ZB tm unq_specs_ok ?_ | refine ZH ?_ ?_ | refine ZJ (by conv=>lhs; simp [q1,q2,q3,q4,hhm,htm,hw,h3,h4,tkB,cg,m1,take_acc,y1,y2,y4,hmm,msB]) ?_ | refine ZA ?_ ?_)
           exact ⟨⟨(j + 1,_, .sl 1152 (gm + 1) 0 (ms.length + 1),1040,((lk h 1040).getD {}).gen + 1,gc),by dsimp only; omega,by simp [lk_st,h2],by simp [lk_st,hC1], .inr rfl,by simp [lk_st,hC1,tkB], .inr ⟨gm + 1,by dsimp only; rw [zt]; simp,by dsimp only; rw [zt]; simp [lk_st,msB,first_all]⟩⟩,by dsimp only; omega,AS.le_of rfl ⟨rfl,rfl,rfl,rfl,rfl,rfl,rfl,trivial⟩ (fun _=>rfl)⟩
         · repeat' (first | intro (hb : _ = _) | refine ZV ?_ | refine ZB tm unq_specs_ok ?_ | refine ZH ?_ ?_ | refine ZJ (by conv=>lhs; simp [q1,q2,q3,q4,hhm,htm,hw,h3,h4,tkB,cg,m1,take_acc]) ?_ | refine ZA ?_ ?_)
           exact ⟨⟨(j + 1,_, .sl 1152 (((lk h 1152).getD {}).gen + 1) 0 1,1040,gx + 1,gc),by dsimp only; omega,by simp [lk_st,h2],by simp [lk_st,hC1], .inr rfl,by simp [lk_st,hC1,tkB], .inr ⟨_,by dsimp only; rw [zt]; rfl,by dsimp only; rw [zt]; simp [lk_st,msB]⟩⟩,by dsimp only; omega,AS.le_of rfl ⟨rfl,rfl,rfl,rfl,rfl,rfl,rfl,trivial⟩ (fun _=>rfl)⟩
         · repeat' (first | intro (hb : _ = _) | refine ZV ?_ | refine ZB tm unq_specs_ok ?_ | refine ZH ?_ ?_ | refine ZJ (by conv=>lhs; simp [q1,q2,q3,q4,hhm,htm,hw,h3,h4,tkB,cg,m1,take_acc,y1,y2,y4,hmm,msB]) ?_ | refine ZA ?_ ?_)
           exact ⟨⟨(j + 1,_, .sl 1152 (gm + 1) 0 (ms.length + 1),1040,gx + 1,gc),by dsimp only; omega,by simp [lk_st,h2],by simp [lk_st,hC1], .inr rfl,by simp [lk_st,hC1,tkB], .inr ⟨gm + 1,by dsimp only; rw [zt]; simp,by dsimp only; rw [zt]; simp [lk_st,msB,first_all]⟩⟩,by dsimp only; omega,AS.le_of rfl ⟨rfl,rfl,rfl,rfl,rfl,rfl,rfl,trivial⟩ (fun _=>rfl)⟩
   · have hlt : k < l.length:=by omega
     obtain ⟨x,hr⟩:=get_lt hlt
     have hm : (l.map Tok.c)[k]? = some x.c:=by rw [List.getElem?_map,hr]; rfl
     have q1 : (k : Int) < l.length:=by omega
     have q2 : ¬ l.length ≤ k:=by omega
     have hw : IntKind.i64.wrap ((k : Int) + 1) = ((k + 1 : Nat) : Int):=w64 (by omega) (by omega)
     have dl:=dues_take_le l k
     have e0 : dues (l.take (k + 1)) = dues (l.take k) ++ dues [x]:=by rw [take_app hr]; simp [dues]
     have y1 : (dues (l.take k)).length ≤ maxLen:=by simp only [maxLen]; omega
     have y2 : ((dues (l.take k)).length + 1) * 8 ≤ 140737488355328:=by omega
     have y4 : (dues (l.take k)).length + 1 ≤ maxLen:=by simp only [maxLen]; omega
     generalize dues (l.take k) = D at *
     obtain ⟨a1,a2,o,a3,a4,a5⟩:=x
     simp only [Tok.c] at hm
     clear hlt hk2 dl
     cases a5 with
     | true =>
       have e2 : (dues (l.take (k + 1))).map (·.id) = D.map (·.id) ++ [a1]:=by rw [e0]; simp [dues]
       rcases hP with ⟨rfl,e⟩ | ⟨g,rfl,hb⟩
       · repeat' (first | intro (hb : _ = _) | refine ZV ?_ | refine ZB tm unq_specs_ok ?_ | refine ZH ?_ ?_ | refine ZJ (by conv=>lhs; simp [q1,q2,hm,hw,m1]) ?_ | refine ZA ?_ ?_)
         exact ⟨⟨(k + 1,_, .sl 576 _ 0 1),by dsimp only; omega,by simp [lk_st,h1],by simp [lk_st,h2], .inr ⟨_,by dsimp only; rw [e2,e]; rfl,by dsimp only; rw [e2,e]; simp [lk_st,idB,uC]⟩⟩,by dsimp only; omega,AS.le_of rfl ⟨rfl,rfl,rfl,rfl,rfl,rfl,rfl,trivial⟩ (fun _=>rfl)⟩
       · rw [List.length_map] at *
         repeat' (first | intro (hb : _ = _) | refine ZV ?_ | refine ZB tm unq_specs_ok ?_ | refine ZH ?_ ?_ | refine ZJ (by conv=>lhs; simp [q1,q2,hm,hw,m1,y1,y2,y4,hb,idB]) ?_ | refine ZA ?_ ?_)
         exact ⟨⟨(k + 1,_, .sl 576 (g + 1) 0 (D.length + 1)),by dsimp only; omega,by simp [lk_st,h1],by simp [lk_st,h2], .inr ⟨g + 1,by dsimp only; rw [e2]; simp,by dsimp only; rw [e2]; simp [lk_st,idB,uC,first_all]⟩⟩,by dsimp only; omega,AS.le_of rfl ⟨rfl,rfl,rfl,rfl,rfl,rfl,rfl,trivial⟩ (fun _=>rfl)⟩
     | false =>
       have e2 : (dues (l.take (k + 1))).map (·.id) = D.map (·.id):=by rw [e0]; simp [dues]
       repeat' (first | intro (hb : _ = _) | refine ZV ?_ | refine ZB tm unq_specs_ok ?_ | refine ZH ?_ ?_ | refine ZJ (by conv=>lhs; simp [q1,q2,hm,hw]) ?_ | refine ZA ?_ ?_)
       exact ⟨⟨(k + 1,_,P),by dsimp only; omega,by simp [lk_st,h1],by simp [lk_st,h2],by
         dsimp only
         rw [e2]
         rcases hP with ⟨rfl,e⟩ | ⟨g,rfl,hb⟩
         · exact .inl ⟨rfl,e⟩
         · exact .inr ⟨g,rfl,by simp [lk_st,hb]⟩⟩,by dsimp only; omega,AS.le_of rfl ⟨rfl,rfl,rfl,rfl,rfl,rfl,rfl,trivial⟩ (fun _=>rfl)⟩
end
section
attribute [local simp] instA
attribute [-simp] mkv
attribute [local simp] mkv_hd hdA_cons hdA_ob hdA_ob'
noncomputable def rk1S : SpecFn := mkS (fun d : Tok => [.agg d.c]) fun d => (.agg ({ d with due := true } : Tok).c,[])
theorem rk1_ok : FnC Try.prog 39 rk1S := by
 refine FnC.walk 39 (fn:=Try.f39) Try.func39 rfl (by kernel_rfl) fun d=>?_
 obtain ⟨a1,a2,o,a3,a4,a5⟩:=d
 change W _ (Ret _ _ (.agg (.int .u64 a1 :: .int .i64 a2 :: (o.cells ++ [.int .i64 a3, .bool a4, .bool true]))) []) _ _ ⟨5,[(0, .agg (.int .u64 a1 :: .int .i64 a2 :: (o.cells ++ [.int .i64 a3, .bool a4, .bool a5])))],[]⟩
 repeat (first | refine ZS ?_ | refine ZK tm no_specs rfl (by conv=>lhs; simp) fun _=>?_ | refine ZL tm no_specs rfl (by conv=>lhs; simp) fun _=>?_)
 exact Yr
theorem rk1_eq (a1 a2 : Int) (o : Ob) (a3 : Int) (a4 a5 : Bool) : rk1S [.agg (.int .u64 a1 :: .int .i64 a2 :: (o.cells ++ [.int .i64 a3, .bool a4, .bool a5]))] [] = some (.agg (.int .u64 a1 :: .int .i64 a2 :: (o.cells ++ [.int .i64 a3, .bool a4, .bool true])),[]) :=
 mkS_eq (enc:=fun d : Tok=>[.agg d.c]) (res:=fun d=>(.agg ({ d with due:=true } : Tok).c,[])) (fun x y h=>by
   simp only [List.cons.injEq,AV.agg.injEq,and_true] at h
   cases Tok.c_inj h
   rfl) ⟨a1,a2,o,a3,a4,a5⟩
noncomputable def wrkS : SpecFn := mkS (fun x : WF => [x.1.1.v, .int .u64 x.1.2.1, .fn (.func 39) [] []]) fun x => (.agg [.int .i64 x.1.1.node, .list 41 ((wiF (bsT x.1.1.toks x.1.2.1) { x.1.2.2 with due := true } x.1.1.toks).map Tok.c)],[])
noncomputable def wrk_specs : NL Spec := [(28,⟨1,cp2S⟩),(45,⟨0,bstS⟩),(49,⟨3,deleteC 71 41⟩),(39,⟨1,rk1S⟩)]
theorem wrk_specs_ok : ∀ p ∈ wrk_specs,FnC Try.prog p.1 p.2.fn := by
 simp only [wrk_specs,List.mem_cons,List.not_mem_nil,or_false]
 rintro p (rfl | rfl | rfl | rfl)
 · exact cp2_ok
 · exact bst_ok
 · exact delete49_ok
 · exact rk1_ok
attribute [local simp] wrk_specs cp2_eq bst_eq rk1_eq
theorem wrk_ok : FnC Try.prog 22 wrkS := by
 refine FnC.walkN 22 (fn:=Try.f22) [30] Try.func22 rfl (by kernel_rfl) (fun d=>?_) (fun d=>⟨_,tks_nrmR _ _⟩)
 obtain ⟨⟨⟨nd,l,hl⟩,id,t⟩,ht,hi⟩:=d
 dsimp only at ht hi
 obtain ⟨i,hE⟩ : ∃ i,bsT l id = i:=⟨_,rfl⟩
 rw [hE] at ht
 have hA : hasAt l i id = true:=by simp [hasAt,ht,hi]
 have hil : i < l.length:=(List.getElem?_eq_some_iff.1 ht).1
 have hm : (l.map Tok.c)[i]? = some t.c:=by rw [List.getElem?_map,ht]; rfl
 change W _ (RetNf _ _ _ (.agg [.int .i64 nd, .list 41 ((wiF (bsT l id) { t with due:=true } l).map Tok.c)]) []) _ _ ⟨62,[(0, .agg [.int .i64 nd, .list 41 (l.map Tok.c)]),(1, .int .u64 id),(2, .fn (.func 39) [] [])],[]⟩
 obtain ⟨a1,a2,o,a3,a4,a5⟩:=t
 have hl2 : l.length ≤ 9001:=by omega
 simp only [Tok.c] at hm hi
 have q2 : ¬ l.length ≤ i:=by omega
 have q3 : (i : Int) < l.length:=by omega
 have q4 : l.length ≤ 1000000:=by omega
 have hw : IntKind.i64.wrap ((i : Int) + 1) = ((i + 1 : Nat) : Int):=w64 (by omega) (by omega)
 have n1 : i ≤ min i l.length:=by omega
 have n2 : ∀ L : List (List AV),L.length = l.length → List.take (i + (l.length - (i + 1))) (List.take i L ++ List.drop (i + 1) L) = List.take i L ++ List.drop (i + 1) L:=fun L h=>List.take_of_length_le (by simp [h]; omega)
 have n3 : ∀ X,List.take l.length ((List.map Tok.c l).set i X) = (List.map Tok.c l).set i X:=fun X=>List.take_of_length_le (by simp)
 have hs : ∀ X,((List.map Tok.c l).set i X)[i]? = some X:=fun X=>List.getElem?_set_self (by simpa using hil)
 repeat' (first | intro (hb : _ = _) | refine ZV ?_ | refine ZB tm wrk_specs_ok ?_ | refine ZH ?_ ?_ | refine ZJ (by conv=>lhs; simp [hs,hl,hl2,tkB0,bstR,hE,hA,hm,take_acc,hi,q2,q3,hw,del_eq,q4]) ?_ | refine ZA ?_ ?_)
 all_goals (refine RetNf.dataE rfl (by conv=>lhs; simp) (by conv=>lhs; simp [n1,n2,n3,dropset]) (by first | rfl | simp [inlT,inlV]) ?_)
 all_goals (refine (congrArg (fun r=>nrmR Try.prog [30] (AV.agg [AV.int .i64 nd,AV.list 41 r])) ?_).trans (tks_nrmR nd _))
 all_goals (subst hi; simp_all [wiF,Tok.gone,List.map_append,List.map_take,List.map_drop,List.map_set])
theorem wrk_eq (n : Int) (l : List Tok) (hl : l.length ≤ 9000) (id : Int) (t : Tok) (hs : Srt l) (hf : fnd id l = some t) : wrkS [.agg [.int .i64 n, .list 41 (l.map Tok.c)], .int .u64 id, .fn (.func 39) [] []] [] = some (.agg [.int .i64 n, .list 41 ((put { t with due := true } l).map Tok.c)],[]) := by
 obtain ⟨h1,h2⟩:=fnd_get hs hf
 subst h2
 rw [← wiF_put (t':={ t with due:=true }) hs hf]
 exact mkS_eq (enc:=fun x : WF=>[x.1.1.v, .int .u64 x.1.2.1, .fn (.func 39) [] []]) (res:=fun x : WF=>(.agg [.int .i64 x.1.1.node, .list 41 ((wiF (bsT x.1.1.toks x.1.2.1) { x.1.2.2 with due:=true } x.1.1.toks).map Tok.c)],[])) (fun x y h=>by
   simp only [List.cons.injEq,AV.int.injEq,true_and,and_true] at h
   rw [WF.ext (Tks.v_inj h.1) h.2]) (⟨(⟨n,l,hl⟩,t.id,t),h1,rfl⟩ : WF)
def ibB (w : Int) : ABlk := { gen := 0,kind := 2,elem := 3,size := 1,inl := false,rows := [[.int .i64 w]] }
def encWa (d : Tok × Int) : List AV × List ABlk := ([.agg d.1.c, .ptr 0 0 0 0],[ibB d.2])
theorem encWa_inj {β : Type} {f : Tok × Int → β} : ∀ x y,encWa x = encWa y → f x = f y := fun x y h => by
 obtain ⟨a,b⟩:=x
 obtain ⟨a',b'⟩:=y
 simp only [encWa,ibB,Prod.mk.injEq,List.cons.injEq,AV.agg.injEq,AV.int.injEq,ABlk.mk.injEq,true_and,and_true] at h
 obtain ⟨h1,h2⟩:=h
 cases Tok.c_inj h1
 cases h2
 rfl
noncomputable def wa1S : SpecFn := mkS2 encWa fun d => (.agg ({ d.1 with want := d.2 } : Tok).c,[ibB d.2])
theorem wa1_ok : FnC Try.prog 29 wa1S := by
 refine FnC.walkB 29 (fn:=Try.f29) Try.func29 rfl (by kernel_rfl) (fun x b hb=>by simp [encWa] at hb; rw [hb]; rfl) fun x=>?_
 obtain ⟨⟨a1,a2,o,a3,a4,a5⟩,w⟩:=x
 change W _ (RetB _ _ 1 (.agg (.int .u64 a1 :: .int .i64 a2 :: (o.cells ++ [.int .i64 w, .bool a4, .bool a5]))) [ibB w]) _ _ ⟨7,[(0, .agg (.int .u64 a1 :: .int .i64 a2 :: (o.cells ++ [.int .i64 a3, .bool a4, .bool a5]))),(1, .ptr 0 0 0 0)],[(0,ibB w)]⟩
 simp only [ibB]
 repeat' (first | intro (hb : _ = _) | refine ZV ?_ | refine ZB tm no_specs ?_ | refine ZH ?_ ?_ | refine ZJ (by conv=>lhs; simp) ?_ | refine ZA ?_ ?_)
 exact RetB.raw [0] rfl (by conv=>lhs; simp) (by decide) (by simp) (by simp [renL]) (by simp)
theorem wa1_eq (a1 a2 : Int) (o : Ob) (a3 : Int) (a4 a5 : Bool) (w : Int) : wa1S [.agg (.int .u64 a1 :: .int .i64 a2 :: (o.cells ++ [.int .i64 a3, .bool a4, .bool a5])), .ptr 0 0 0 0] [{ gen := 0,kind := 2,elem := 3,size := 1,inl := false,rows := [[.int .i64 w]] }] = some (.agg (.int .u64 a1 :: .int .i64 a2 :: (o.cells ++ [.int .i64 w, .bool a4, .bool a5])),[{ gen := 0,kind := 2,elem := 3,size := 1,inl := false,rows := [[.int .i64 w]] }]) :=
 mkS2_eq (enc:=encWa) (res:=fun d=>(.agg ({ d.1 with want:=d.2 } : Tok).c,[ibB d.2])) encWa_inj (⟨a1,a2,o,a3,a4,a5⟩,w)
noncomputable def wwaS : SpecFn := mkS2 (fun x : WF × Int => ([x.1.1.1.v, .int .u64 x.1.1.2.1, .fn (.func 29) [] [ .ptr 0 0 0 0]],[ibB x.2])) fun x => (.agg [.int .i64 x.1.1.1.node, .list 41 ((wiF (bsT x.1.1.1.toks x.1.1.2.1) ({ x.1.1.2.2 with want := x.2 }) x.1.1.1.toks).map Tok.c)],[ibB x.2])
noncomputable def wwa_specs : NL Spec := [(28,⟨1,cp2S⟩),(45,⟨0,bstS⟩),(49,⟨3,deleteC 71 41⟩),(29,⟨3,wa1S⟩)]
theorem wwa_specs_ok : ∀ p ∈ wwa_specs,FnC Try.prog p.1 p.2.fn := by
 simp only [wwa_specs,List.mem_cons,List.not_mem_nil,or_false]
 rintro p (rfl | rfl | rfl | rfl)
 · exact cp2_ok
 · exact bst_ok
 · exact delete49_ok
 · exact wa1_ok
attribute [local simp] wwa_specs cp2_eq bst_eq wa1_eq
theorem wwa_ok : FnC Try.prog 22 wwaS := by
 refine FnC.walkBN 22 (fn:=Try.f22) [30] Try.func22 rfl (by kernel_rfl) (fun x b hb=>by simp at hb; rw [hb]; rfl) (fun x=>?_) (fun x=>⟨_,tks_nrmR _ _⟩)
 obtain ⟨⟨⟨⟨nd,l,hl⟩,id,t⟩,ht,hi⟩,q⟩:=x
 dsimp only at ht hi
 obtain ⟨i,hE⟩ : ∃ i,bsT l id = i:=⟨_,rfl⟩
 rw [hE] at ht
 have hA : hasAt l i id = true:=by simp [hasAt,ht,hi]
 have hil : i < l.length:=(List.getElem?_eq_some_iff.1 ht).1
 have hm : (l.map Tok.c)[i]? = some t.c:=by rw [List.getElem?_map,ht]; rfl
 obtain ⟨a1,a2,o,a3,a4,a5⟩:=t
 change W _ (RetBN _ _ _ 1 (.agg [.int .i64 nd, .list 41 ((wiF (bsT l id) (⟨a1,a2,o,q,a4,a5⟩) l).map Tok.c)]) [ibB q]) _ _ ⟨62,[(0, .agg [.int .i64 nd, .list 41 (l.map Tok.c)]),(1, .int .u64 id),(2, .fn (.func 29) [] [ .ptr 0 0 0 0])],[(0,ibB q)]⟩
 have hl2 : l.length ≤ 9001:=by omega
 simp only [Tok.c] at hm hi
 have q2 : ¬ l.length ≤ i:=by omega
 have q3 : (i : Int) < l.length:=by omega
 have q4 : l.length ≤ 1000000:=by omega
 have hw : IntKind.i64.wrap ((i : Int) + 1) = ((i + 1 : Nat) : Int):=w64 (by omega) (by omega)
 have n1 : i ≤ min i l.length:=by omega
 have n2 : ∀ L : List (List AV),L.length = l.length → List.take (i + (l.length - (i + 1))) (List.take i L ++ List.drop (i + 1) L) = List.take i L ++ List.drop (i + 1) L:=fun L h=>List.take_of_length_le (by simp [h]; omega)
 have n3 : ∀ X,List.take l.length ((List.map Tok.c l).set i X) = (List.map Tok.c l).set i X:=fun X=>List.take_of_length_le (by simp)
 have hs : ∀ X,((List.map Tok.c l).set i X)[i]? = some X:=fun X=>List.getElem?_set_self (by simpa using hil)
 simp only [ibB]
 repeat' (first | intro (hb : _ = _) | refine ZV ?_ | refine ZB tm wwa_specs_ok ?_ | refine ZH ?_ ?_ | refine ZJ (by conv=>lhs; simp [hs,hl,hl2,tkB0,bstR,hE,hA,hm,take_acc,hi,q2,q3,hw,del_eq,q4]) ?_ | refine ZA ?_ ?_)
 all_goals (refine RetBN.dataE true [0] rfl (by conv=>lhs; simp) (by conv=>lhs; simp [n1,n2,n3,dropset,frqT,frqV,frqVs,frqL,frq1]) (by decide) (by rintro j hj; rcases (show j = 0 by omega) with rfl; exact ⟨rfl,rfl⟩) (by simp) (by conv=>lhs; simp) ?_)
 all_goals (refine (congrArg (fun r=>nrmR Try.prog [30] (AV.agg [AV.int .i64 nd,AV.list 41 r])) ?_).trans (tks_nrmR nd _))
 all_goals (subst hi; simp_all [wiF,Tok.gone,List.map_append,List.map_take,List.map_drop,List.map_set])
theorem wwa_eq (n : Int) (l : List Tok) (hl : l.length ≤ 9000) (id : Int) (t : Tok) (q : Int) (hs : Srt l) (hf : fnd id l = some t) : wwaS [.agg [.int .i64 n, .list 41 (l.map Tok.c)], .int .u64 id, .fn (.func 29) [] [.ptr 0 0 0 0]] [ibB q] = some (.agg [.int .i64 n, .list 41 ((put { t with want := q } l).map Tok.c)],[ibB q]) := by
 obtain ⟨h1,h2⟩:=fnd_get hs hf
 subst h2
 rw [← wiF_put (t':={ t with want:=q }) hs hf]
 exact mkS2_eq (enc:=fun x : WF × Int=>([x.1.1.1.v, .int .u64 x.1.1.2.1, .fn (.func 29) [] [.ptr 0 0 0 0]],[ibB x.2])) (res:=fun x : WF × Int=>(.agg [.int .i64 x.1.1.1.node, .list 41 ((wiF (bsT x.1.1.1.toks x.1.1.2.1) { x.1.1.2.2 with want:=x.2 } x.1.1.1.toks).map Tok.c)],[ibB x.2])) (fun x y h=>by
   obtain ⟨x,p⟩:=x
   obtain ⟨y,r⟩:=y
   simp only [ibB,Prod.mk.injEq,List.cons.injEq,AV.int.injEq,ABlk.mk.injEq,true_and,and_true] at h
   cases WF.ext (Tks.v_inj h.1.1) h.1.2
   have h2 : p = r:=by simpa using h.2
   cases h2
   rfl) ((⟨(⟨n,l,hl⟩,t.id,t),h1,rfl⟩ : WF),q)
def WQ := { x : Tks × Int × Int // hasAt x.1.toks (bsT x.1.toks x.2.1) x.2.1 = false ∧ x.2.2 ≠ 0 }
noncomputable def wa1N : SpecFn := nS Try.prog [71,41] wa1S
theorem wa1N_ok : FnC Try.prog 29 wa1N := wa1_ok.nrm _
theorem wa1N_eq (id mode want : Int) (pin due : Bool) (q : Int) : wa1N [.agg (.int .u64 id :: .int .i64 mode :: (zO ++ [.int .i64 want, .bool pin, .bool due])), .ptr 0 0 0 0] [ibB q] = some (.agg (⟨id,mode,zOb,q,pin,due⟩ : Tok).c,[ibB q]) := by
 rw [wa1N,nS_eq]
 simp only [nrmL]
 rw [show nrmV Try.prog 71 (.agg (.int .u64 id :: .int .i64 mode :: (zO ++ [.int .i64 want, .bool pin, .bool due]))) = .agg (⟨id,mode,zOb,want,pin,due⟩ : Tok).c by rw [nrmV,tok_nrm0]]
 exact mkS2_eq (enc:=encWa) (res:=fun d=>(.agg ({ d.1 with want:=d.2 } : Tok).c,[ibB d.2])) encWa_inj (⟨id,mode,zOb,want,pin,due⟩,q)
noncomputable def wwnS : SpecFn := mkS2 (fun x : WQ => ([x.1.1.v, .int .u64 x.1.2.1, .fn (.func 29) [] [.ptr 0 0 0 0]],[ibB x.1.2.2])) fun x => (.agg [.int .i64 x.1.1.node, .list 41 ((wiN (bsT x.1.1.toks x.1.2.1) ⟨x.1.2.1,0,zOb,x.1.2.2,false,false⟩ x.1.1.toks).map Tok.c)],[ibB x.1.2.2])
noncomputable def wwn_specs : NL Spec := [(28,⟨1,cp2S⟩),(45,⟨0,bstS⟩),(48,⟨3,insertC 71 41 496⟩),(49,⟨3,deleteC 71 41⟩),(29,⟨3,wa1N⟩)]
theorem wwn_specs_ok : ∀ p ∈ wwn_specs,FnC Try.prog p.1 p.2.fn := by
 simp only [wwn_specs,List.mem_cons,List.not_mem_nil,or_false]
 rintro p (rfl | rfl | rfl | rfl | rfl)
 · exact cp2_ok
 · exact bst_ok
 · exact insert48_ok
 · exact delete49_ok
 · exact wa1N_ok
attribute [local simp] wwn_specs cp2_eq bst_eq
theorem wwn_ok : FnC Try.prog 22 wwnS := by
 refine FnC.walkBN 22 (fn:=Try.f22) [30] Try.func22 rfl (by kernel_rfl) (fun x b hb=>by simp at hb; rw [hb]; rfl) (fun x=>?_) (fun x=>⟨_,tks_nrmR _ _⟩)
 obtain ⟨⟨⟨nd,l,hl⟩,id,q⟩,hA,hq0⟩:=x
 dsimp only at hA hq0
 have hqb : (q == 0) = false:=by simpa using hq0
 have hil:=bsT_le l id
 obtain ⟨i,hE⟩ : ∃ i,bsT l id = i:=⟨_,rfl⟩
 have cq:=wa1N_eq id 0 0 false false q
 change W _ (RetBN _ _ _ 1 (.agg [.int .i64 nd, .list 41 ((wiN (bsT l id) ⟨id,0,zOb,q,false,false⟩ l).map Tok.c)]) [ibB q]) _ _ ⟨62,[(0, .agg [.int .i64 nd, .list 41 (l.map Tok.c)]),(1, .int .u64 id),(2, .fn (.func 29) [] [.ptr 0 0 0 0])],[(0,ibB q)]⟩
 rw [hE] at hA hil
 have hl2 : l.length ≤ 9001:=by omega
 have q3 : (i : Int) < (l.length : Int) + 1:=by omega
 have q4 : l.length ≤ 1000000:=by omega
 have q5 : (l.length + 1) * 496 ≤ 140737488355328:=by omega
 have hw : IntKind.i64.wrap ((i : Int) + 1) = ((i + 1 : Nat) : Int):=w64 (by omega) (by omega)
 have hL : (List.take i (List.map Tok.c l)).length = i:=by simp; omega
 simp only [ibB,zO,Tok.c,List.cons_append,List.nil_append] at cq ⊢
 have hg : ∀ z D,(List.take i (List.map Tok.c l) ++ z :: D)[i]? = some z:=fun z D=>by rw [List.getElem?_append_right (by omega),hL,Nat.sub_self]; rfl
 have hsx : ∀ z D x,(List.take i (List.map Tok.c l) ++ z :: D).set i x = List.take i (List.map Tok.c l) ++ x :: D:=fun z D x=>by rw [List.set_append_right _ _ (by omega),hL,Nat.sub_self]; rfl
 have n1 : ∀ z : List AV,List.take (l.length + 1) (List.take i (List.map Tok.c l) ++ z :: List.drop i (List.map Tok.c l)) = List.take i (List.map Tok.c l) ++ z :: List.drop i (List.map Tok.c l):=fun z=>List.take_of_length_le (by simp; omega)
 have n2 : l.length + 1 ≤ min i l.length + (l.length - i + 1):=by omega
 repeat' (first | intro (hb : _ = _) | refine ZV ?_ | refine ZB tm wwn_specs_ok ?_ | refine ZH ?_ ?_ | refine ZJ (by conv=>lhs; simp [hl,hl2,tkB0,bstR,hE,hA,take_acc,insert_eq,q3,q4,q5,hil,cq,m1,hg,hsx,hqb]) ?_ | refine ZA ?_ ?_)
 all_goals (refine RetBN.dataE true [0] rfl (by conv=>lhs; simp) (by conv=>lhs; simp [n1,n2,frqT,frqV,frqVs,frqL,frq1]) (by decide) (by rintro j hj; rcases (show j = 0 by omega) with rfl; exact ⟨rfl,rfl⟩) (by simp) (by conv=>lhs; simp) ?_)
 all_goals (refine (congrArg (fun r=>nrmR Try.prog [30] (AV.agg [AV.int .i64 nd,AV.list 41 r])) ?_).trans (tks_nrmR nd _))
 simp [hE,wiN]
theorem wwn_eq (n : Int) (l : List Tok) (hl : l.length ≤ 9000) (id q : Int) (hs : Srt l) (hf : fnd id l = none) (hq : q ≠ 0) : wwnS [.agg [.int .i64 n, .list 41 (l.map Tok.c)], .int .u64 id, .fn (.func 29) [] [.ptr 0 0 0 0]] [ibB q] = some (.agg [.int .i64 n, .list 41 ((put ⟨id,0,zOb,q,false,false⟩ l).map Tok.c)],[ibB q]) := by
 rw [← wiN_put (t':=⟨id,0,zOb,q,false,false⟩) hs hf (by simp [Tok.gone,hq])]
 exact mkS2_eq (enc:=fun x : WQ=>([x.1.1.v, .int .u64 x.1.2.1, .fn (.func 29) [] [.ptr 0 0 0 0]],[ibB x.1.2.2])) (res:=fun x : WQ=>(.agg [.int .i64 x.1.1.node, .list 41 ((wiN (bsT x.1.1.toks x.1.2.1) ⟨x.1.2.1,0,zOb,x.1.2.2,false,false⟩ x.1.1.toks).map Tok.c)],[ibB x.1.2.2])) (fun x y h=>by
   obtain ⟨⟨d,p,w⟩,hx⟩:=x
   obtain ⟨⟨e,r,v⟩,hy⟩:=y
   simp only [ibB,Prod.mk.injEq,List.cons.injEq,AV.int.injEq,ABlk.mk.injEq,true_and,and_true] at h
   cases Tks.v_inj h.1.1
   have h2 : p = r:=by simpa using h.1.2
   have h3 : w = v:=by simpa using h.2
   cases h2
   cases h3
   rfl) (⟨(⟨n,l,hl⟩,id,q),fnd_none hs hf,hq⟩ : WQ)
end
section
attribute [local simp] instA
attribute [-simp] mkv
attribute [local simp] mkv_hd hdA_cons hdA_ob hdA_ob'
def mgB (m : Msg) : ABlk := { gen := 0,kind := 2,elem := 75,size := 45,inl := false,rows := [m.v] }
def encGr (d : Tok × Msg) : List AV × List ABlk := ([.agg d.1.c, .ptr 0 0 0 0],[mgB d.2])
theorem msg_inj1 {a b : Msg} (h : a.v = b.v) : a = b := by
 obtain ⟨a1,a2,a3,a4,a5,o,a6,a7,a8,a9⟩:=a
 obtain ⟨b1,b2,b3,b4,b5,p,b6,b7,b8,b9⟩:=b
 simp only [Msg.v,List.cons.injEq,AV.int.injEq,true_and] at h
 obtain ⟨rfl,rfl,rfl,rfl,rfl,h⟩:=h
 obtain ⟨h1,h2⟩:=List.append_inj h (by simp)
 simp only [List.cons.injEq,AV.int.injEq,true_and,and_true] at h2
 obtain ⟨rfl,rfl,rfl,rfl⟩:=h2
 rw [Td.ext h1]
theorem mgB_inj {a b : Msg} (h : mgB a = mgB b) : a = b := by
 simp only [mgB,ABlk.mk.injEq,List.cons.injEq,true_and,and_true] at h
 exact msg_inj1 h
theorem encGr_inj {β : Type} {f : Tok × Msg → β} : ∀ x y,encGr x = encGr y → f x = f y := fun x y h => by
 obtain ⟨a,b⟩:=x
 obtain ⟨a',b'⟩:=y
 simp only [encGr,Prod.mk.injEq,List.cons.injEq,AV.agg.injEq,true_and,and_true] at h
 obtain ⟨h1,h2⟩:=h
 cases Tok.c_inj h1
 cases mgB_inj h2
 rfl
noncomputable def gt_specs : NL Spec := [(24,⟨1,cobS⟩)]
theorem gt_specs_ok : ∀ p ∈ gt_specs,FnC Try.prog p.1 p.2.fn := by
 simp only [gt_specs,List.mem_cons,List.not_mem_nil,or_false]
 rintro p rfl
 exact cob_ok
attribute [local simp] gt_specs
noncomputable def gt1S : SpecFn := mkS2 encGr fun d => (.agg (grtT d.1 d.2).c,[mgB d.2])
theorem gt1_ok : FnC Try.prog 38 gt1S := by
 refine FnC.walkB 38 (fn:=Try.f38) Try.func38 rfl (by kernel_rfl) (fun x b hb=>by simp [encGr] at hb; rw [hb]; rfl) fun x=>?_
 obtain ⟨⟨a1,a2,o,a3,a4,a5⟩,⟨u1,u2,u3,u4,u5,mo,u6,u7,u8,u9⟩⟩:=x
 have co:=cobS_eq mo
 by_cases h : a3 ≤ u5
 · change W _ (RetB _ _ 1 (.agg (.int .u64 a1 :: .int .i64 u5 :: (mo.cells ++ [.int .i64 (if a3 ≤ u5 then 0 else a3), .bool a4, .bool a5]))) [mgB _]) _ _ ⟨18,[(0, .agg (.int .u64 a1 :: .int .i64 a2 :: (o.cells ++ [.int .i64 a3, .bool a4, .bool a5]))),(1, .ptr 0 0 0 0)],[(0,mgB _)]⟩
   rw [if_pos h]
   simp only [mgB,Msg.v]
   repeat' (first | intro (hb : _ = _) | refine ZV ?_ | refine ZB tm gt_specs_ok ?_ | refine ZH ?_ ?_ | refine ZJ (by conv=>lhs; simp [co,h]) ?_ | refine ZA ?_ ?_)
   exact RetB.raw [0] rfl (by conv=>lhs; simp) (by decide) (by simp) (by simp [renL]) (by simp)
 · change W _ (RetB _ _ 1 (.agg (.int .u64 a1 :: .int .i64 u5 :: (mo.cells ++ [.int .i64 (if a3 ≤ u5 then 0 else a3), .bool a4, .bool a5]))) [mgB _]) _ _ ⟨18,[(0, .agg (.int .u64 a1 :: .int .i64 a2 :: (o.cells ++ [.int .i64 a3, .bool a4, .bool a5]))),(1, .ptr 0 0 0 0)],[(0,mgB _)]⟩
   rw [if_neg h]
   simp only [mgB,Msg.v]
   repeat' (first | intro (hb : _ = _) | refine ZV ?_ | refine ZB tm gt_specs_ok ?_ | refine ZH ?_ ?_ | refine ZJ (by conv=>lhs; simp [co,h]) ?_ | refine ZA ?_ ?_)
   exact RetB.raw [0] rfl (by conv=>lhs; simp) (by decide) (by simp) (by simp [renL]) (by simp)
theorem gt1_eq (a1 a2 : Int) (o : Ob) (a3 : Int) (a4 a5 : Bool) (u1 u2 u3 u4 u5 : Int) (mo : Ob) (u6 u7 u8 u9 : Int) (b3 : Int) (hb3 : (if a3 ≤ u5 then 0 else a3) = b3) : gt1S [.agg (.int .u64 a1 :: .int .i64 a2 :: (o.cells ++ [.int .i64 a3, .bool a4, .bool a5])), .ptr 0 0 0 0] [{ gen := 0,kind := 2,elem := 75,size := 45,inl := false,rows := [.int .i64 u1 :: .int .i64 u2 :: .int .i64 u3 :: .int .u64 u4 :: .int .i64 u5 :: (mo.cells ++ [.int .u64 u6, .int .i64 u7, .int .u64 u8, .int .i64 u9])] }] = some (.agg (.int .u64 a1 :: .int .i64 u5 :: (mo.cells ++ [.int .i64 b3, .bool a4, .bool a5])),[{ gen := 0,kind := 2,elem := 75,size := 45,inl := false,rows := [.int .i64 u1 :: .int .i64 u2 :: .int .i64 u3 :: .int .u64 u4 :: .int .i64 u5 :: (mo.cells ++ [.int .u64 u6, .int .i64 u7, .int .u64 u8, .int .i64 u9])] }]) := by
 subst hb3
 exact mkS2_eq (enc:=encGr) (res:=fun d=>(.agg (grtT d.1 d.2).c,[mgB d.2])) encGr_inj (⟨a1,a2,o,a3,a4,a5⟩,⟨u1,u2,u3,u4,u5,mo,u6,u7,u8,u9⟩)
noncomputable def wgrS : SpecFn := mkS2 (fun x : WF × Msg => ([x.1.1.1.v, .int .u64 x.1.1.2.1, .fn (.func 38) [] [ .ptr 0 0 0 0]],[mgB x.2])) fun x => (.agg [.int .i64 x.1.1.1.node, .list 41 ((wiF (bsT x.1.1.1.toks x.1.1.2.1) (grtT x.1.1.2.2 x.2) x.1.1.1.toks).map Tok.c)],[mgB x.2])
noncomputable def wgr_specs : NL Spec := [(28,⟨1,cp2S⟩),(45,⟨0,bstS⟩),(49,⟨3,deleteC 71 41⟩),(38,⟨3,gt1S⟩)]
theorem wgr_specs_ok : ∀ p ∈ wgr_specs,FnC Try.prog p.1 p.2.fn := by
 simp only [wgr_specs,List.mem_cons,List.not_mem_nil,or_false]
 rintro p (rfl | rfl | rfl | rfl)
 · exact cp2_ok
 · exact bst_ok
 · exact delete49_ok
 · exact gt1_ok
attribute [local simp] wgr_specs cp2_eq bst_eq
theorem wgr_ok : FnC Try.prog 22 wgrS := by
 refine FnC.walkBN 22 (fn:=Try.f22) [30] Try.func22 rfl (by kernel_rfl) (fun x b hb=>by simp at hb; rw [hb]; rfl) (fun x=>?_) (fun x=>⟨_,tks_nrmR _ _⟩)
 obtain ⟨⟨⟨⟨nd,l,hl⟩,id,t⟩,ht,hi⟩,q⟩:=x
 dsimp only at ht hi
 obtain ⟨i,hE⟩ : ∃ i,bsT l id = i:=⟨_,rfl⟩
 rw [hE] at ht
 have hA : hasAt l i id = true:=by simp [hasAt,ht,hi]
 have hil : i < l.length:=(List.getElem?_eq_some_iff.1 ht).1
 have hm : (l.map Tok.c)[i]? = some t.c:=by rw [List.getElem?_map,ht]; rfl
 obtain ⟨a1,a2,o,a3,a4,a5⟩:=t
 change W _ (RetBN _ _ _ 1 (.agg [.int .i64 nd, .list 41 ((wiF (bsT l id) (grtT ⟨a1,a2,o,a3,a4,a5⟩ q) l).map Tok.c)]) [mgB q]) _ _ ⟨62,[(0, .agg [.int .i64 nd, .list 41 (l.map Tok.c)]),(1, .int .u64 id),(2, .fn (.func 38) [] [ .ptr 0 0 0 0])],[(0,mgB q)]⟩
 have hl2 : l.length ≤ 9001:=by omega
 simp only [Tok.c] at hm hi
 have q2 : ¬ l.length ≤ i:=by omega
 have q3 : (i : Int) < l.length:=by omega
 have q4 : l.length ≤ 1000000:=by omega
 have hw : IntKind.i64.wrap ((i : Int) + 1) = ((i + 1 : Nat) : Int):=w64 (by omega) (by omega)
 have n1 : i ≤ min i l.length:=by omega
 have n2 : ∀ L : List (List AV),L.length = l.length → List.take (i + (l.length - (i + 1))) (List.take i L ++ List.drop (i + 1) L) = List.take i L ++ List.drop (i + 1) L:=fun L h=>List.take_of_length_le (by simp [h]; omega)
 have n3 : ∀ X,List.take l.length ((List.map Tok.c l).set i X) = (List.map Tok.c l).set i X:=fun X=>List.take_of_length_le (by simp)
 have hs : ∀ X,((List.map Tok.c l).set i X)[i]? = some X:=fun X=>List.getElem?_set_self (by simpa using hil)
 obtain ⟨u1,u2,u3,u4,u5,mo,u6,u7,u8,u9⟩:=q
 obtain ⟨b3,hb3⟩ : ∃ b3,(if a3 ≤ u5 then 0 else a3) = b3:=⟨_,rfl⟩
 have cg:=gt1_eq id a2 o a3 a4 a5 u1 u2 u3 u4 u5 mo u6 u7 u8 u9 b3 hb3
 have hgt : grtT ⟨a1,a2,o,a3,a4,a5⟩ ⟨u1,u2,u3,u4,u5,mo,u6,u7,u8,u9⟩ = ⟨a1,u5,mo,b3,a4,a5⟩:=by rw [← hb3]; rfl
 rw [hgt]
 clear hgt hb3
 simp only [mgB,Msg.v]
 repeat' (first | intro (hb : _ = _) | refine ZV ?_ | refine ZB tm wgr_specs_ok ?_ | refine ZH ?_ ?_ | refine ZJ (by conv=>lhs; simp [hs,hl,hl2,tkB0,bstR,hE,hA,hm,take_acc,hi,q2,q3,hw,del_eq,q4,cg]) ?_ | refine ZA ?_ ?_)
 all_goals (refine RetBN.dataE true [0] rfl (by conv=>lhs; simp) (by conv=>lhs; simp [n1,n2,n3,dropset,frqT,frqV,frqVs,frqL,frq1]) (by decide) (by rintro j hj; rcases (show j = 0 by omega) with rfl; exact ⟨rfl,rfl⟩) (by simp) (by conv=>lhs; simp) ?_)
 all_goals (refine (congrArg (fun r=>nrmR Try.prog [30] (AV.agg [AV.int .i64 nd,AV.list 41 r])) ?_).trans (tks_nrmR nd _))
 all_goals (subst hi; simp_all [wiF,Tok.gone,List.map_append,List.map_take,List.map_drop,List.map_set])
theorem wgr_eq (n : Int) (l : List Tok) (hl : l.length ≤ 9000) (id : Int) (t : Tok) (q : Msg) (hs : Srt l) (hf : fnd id l = some t) : wgrS [.agg [.int .i64 n, .list 41 (l.map Tok.c)], .int .u64 id, .fn (.func 38) [] [.ptr 0 0 0 0]] [mgB q] = some (.agg [.int .i64 n, .list 41 ((put (grtT t q) l).map Tok.c)],[mgB q]) := by
 obtain ⟨h1,h2⟩:=fnd_get hs hf
 subst h2
 rw [← wiF_put (t':=(grtT t q)) hs hf]
 exact mkS2_eq (enc:=fun x : WF × Msg=>([x.1.1.1.v, .int .u64 x.1.1.2.1, .fn (.func 38) [] [.ptr 0 0 0 0]],[mgB x.2])) (res:=fun x : WF × Msg=>(.agg [.int .i64 x.1.1.1.node, .list 41 ((wiF (bsT x.1.1.1.toks x.1.1.2.1) (grtT x.1.1.2.2 x.2) x.1.1.1.toks).map Tok.c)],[mgB x.2])) (fun x y h=>by
   obtain ⟨x,p⟩:=x
   obtain ⟨y,r⟩:=y
   simp only [Prod.mk.injEq,List.cons.injEq,AV.int.injEq,true_and,and_true] at h
   cases WF.ext (Tks.v_inj h.1.1) h.1.2
   cases mgB_inj h.2
   rfl) ((⟨(⟨n,l,hl⟩,t.id,t),h1,rfl⟩ : WF),q)
end
end Go.Abs.Np
