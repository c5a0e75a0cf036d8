/- Copies of tokens. Conditions: none. -/
import Derived.Test.YtmcbpehpogjmoaaNp2
import Derived.Test.YtmcbpehpogjmoaaAb8
namespace Go.Abs.Np
open Go Go.Proofs Go.Abs
set_option maxRecDepth 100000
set_option maxHeartbeats 4000000
set_option linter.unusedSimpArgs false
set_option linter.unusedVariables false
section
attribute [local simp] slice3A slice3C instA
theorem clone56_ok : FnC Try.prog 56 (cloneC 71 41 496) := by
 refine FnC.ofV 56 (fn:=Try.f56) Try.func56 rfl (by kernel_rfl) fun args B r B' hS=>?_
 unfold cloneC at hS
 split at hS
 · simp only [Option.some.injEq,Prod.mk.injEq] at hS
   obtain ⟨rfl,rfl⟩:=hS
   refine ⟨by simp, ?_⟩
   change V _ (RetM _ _ 0 _ _) _ _ ⟨8,[(0, .nils)],[]⟩
   repeat (first | refine YS ?_ | refine V.region tm no_specs rfl (by conv=>lhs; simp) fun _=>?_ | refine YL tm no_specs rfl (by conv=>lhs; simp) fun _=>?_)
   exact Ym [] []
 · rename_i s rows
   split at hS
   · rename_i hc
     obtain ⟨rfl,h1,h1',h2⟩:=hc
     simp only [Option.some.injEq,Prod.mk.injEq] at hS
     obtain ⟨rfl,rfl⟩:=hS
     refine ⟨by simp, ?_⟩
     change V _ (RetM _ _ 0 _ _) _ _ ⟨8,[(0, .list 41 rows)],[]⟩
     cases rows with
     | nil =>
       refine V.nilCase (t:=0) (s:=41) 0 rfl rfl ?_ ?_
       · repeat (first | refine YU ?_ | refine V.region tm no_specs rfl (by conv=>lhs; simp) fun _=>?_ | refine YL tm no_specs rfl (by conv=>lhs; simp) fun _=>?_)
         refine V.phantom (t:=2) 100 71 41 rfl rfl (by decide) ?_
         repeat (first | refine YS ?_ | refine V.region tm no_specs rfl (by conv=>lhs; simp) fun _=>?_ | refine YL tm no_specs rfl (by conv=>lhs; simp) fun _=>?_)
         simp only [List.length_nil,rowB]
         exact Ym [100] [0]
       · repeat (first | refine YS ?_ | refine V.region tm no_specs rfl (by conv=>lhs; simp) fun _=>?_ | refine YL tm no_specs rfl (by conv=>lhs; simp) fun _=>?_)
         simp only [List.length_nil,rowB]
         exact Ym [96] [0]
     | cons x rows =>
       simp only [List.length_cons] at h1 h2 h1'
       try simp only [Nat.mul_one] at h1
       repeat (first | refine YS ?_ | refine V.region tm no_specs rfl (by conv=>lhs; simp [h1,h2,h1']) fun _=>?_ | refine YL tm no_specs rfl (by conv=>lhs; simp [h1,h2,h1']) fun _=>?_)
       simp only [List.length_cons,rowB]
       exact Ym [96] [0]
   · cases hS
 · rename_i len b
   split at hS
   · rename_i hc
     obtain ⟨hb,rfl,h1,h2⟩:=hc
     simp only [Option.some.injEq,Prod.mk.injEq] at hS
     obtain ⟨rfl,rfl⟩:=hS
     rw [okB_eq hb]
     generalize b.rows = rows at h1 h2 ⊢
     refine ⟨by simp, ?_⟩
     change V _ (RetM _ _ 1 _ _) _ _ ⟨8,[(0, .sl 0 0 0 rows.length)],[(0, { gen:=0,kind:=2,elem:=71,size:=41,inl:=true,rows })]⟩
     cases rows with
     | nil =>
       refine V.slNil (t:=0) 1 rfl rfl rfl rfl ?_ ?_
       · repeat (first | refine YU ?_ | refine V.region tm no_specs rfl (by conv=>lhs; simp) fun _=>?_ | refine YL tm no_specs rfl (by conv=>lhs; simp) fun _=>?_)
         refine V.phantom (t:=2) 100 71 41 rfl rfl (by decide) ?_
         repeat (first | refine YS ?_ | refine V.region tm no_specs rfl (by conv=>lhs; simp) fun _=>?_ | refine YL tm no_specs rfl (by conv=>lhs; simp) fun _=>?_)
         simp only [List.length_nil,rowB]
         exact Ym [0,100] [0,0]
       · repeat (first | refine YS ?_ | refine V.region tm no_specs rfl (by conv=>lhs; simp) fun _=>?_ | refine YL tm no_specs rfl (by conv=>lhs; simp) fun _=>?_)
         simp only [List.length_nil,rowB]
         exact Ym [0,96] [0,0]
     | cons x rows =>
       simp only [List.length_cons] at h1 h2
       try simp only [Nat.mul_one] at h1
       repeat (first | refine YS ?_ | refine V.region tm no_specs rfl (by conv=>lhs; simp [h1,h2]) fun _=>?_ | refine YL tm no_specs rfl (by conv=>lhs; simp [h1,h2]) fun _=>?_)
       simp only [List.length_cons,rowB]
       exact Ym [0,96] [0,0]
   · cases hS
 · cases hS
attribute [local simp] instA
attribute [-simp] mkv
attribute [local simp] mkv_hd hdA_cons hdA_ob hdA_ob'
noncomputable def cp_specs : NL Spec := [(56,⟨3,cloneC 71 41 496⟩),(24,⟨1,cobS⟩)]
theorem cp_specs_ok : ∀ p ∈ cp_specs,FnC Try.prog p.1 p.2.fn := by
 simp only [cp_specs,List.mem_cons,List.not_mem_nil,or_false]
 rintro p (rfl | rfl)
 · exact clone56_ok
 · exact cob_ok
attribute [local simp] cp_specs
def u8B (id : Int) : ABlk := { gen := 0,kind := 2,elem := 41,size := 1,inl := false,rows := [[.int .u64 id]] }
def encF (d : Tok × Int) : List AV × List ABlk := ([.agg d.1.c, .ptr 0 0 0 0],[u8B d.2])
theorem encF_inj {β : Type} {f : Tok × Int → β} : ∀ x y,encF x = encF y → f x = f y := fun x y h => by
 obtain ⟨a,b⟩:=x
 obtain ⟨a',b'⟩:=y
 simp only [encF,u8B,Prod.mk.injEq,List.cons.injEq,AV.agg.injEq,AV.int.injEq,ABlk.mk.injEq,true_and,and_true] at h
 obtain ⟨h1,rfl⟩:=h
 cases Tok.c_inj h1
 rfl
noncomputable def fqS : SpecFn := mkS2 encF fun d => (.bool (d.1.id == d.2),[u8B d.2])
theorem fq_ok : FnC Try.prog 55 fqS := by
 refine FnC.walkB 55 (fn:=Try.f55) Try.func55 rfl (by kernel_rfl) (fun x b hb=>by simp [encF] at hb; rw [hb]; rfl) fun x=>?_
 obtain ⟨⟨a1,a2,o,a3,a4,a5⟩,id⟩:=x
 change W _ (RetB _ _ 1 (.bool (a1 == id)) [u8B id]) _ _ ⟨8,[(0, .agg (.int .u64 a1 :: .int .i64 a2 :: (o.cells ++ [.int .i64 a3, .bool a4, .bool a5]))),(1, .ptr 0 0 0 0)],[(0,u8B id)]⟩
 repeat (first | refine ZS ?_ | refine ZK tm no_specs rfl (by conv=>lhs; simp [u8B]) fun _=>?_ | refine ZL tm no_specs rfl (by conv=>lhs; simp [u8B]) fun _=>?_)
 simp only [u8B]
 first | exact retE2_ok false (by conv => lhs; simp [retE2, frqT, frqV, frqVs, frqL, frq1, reachE, blkRefs, outE, nodupE, firstE, seqO, expB2, expF, refsB, refsL, AV.refs, AV.ren, renL, renB, List.range, List.range.loop, resVs, resV, pack]) | fail "no return here"
end
section
attribute [local simp] instA
attribute [-simp] mkv
attribute [local simp] mkv_hd hdA_cons hdA_ob hdA_ob'
def idxF (id : Int) : Nat → List Tok → Int
 | _,[] => -1
 | k,t :: r=>if t.id = id then (k : Int) else idxF id (k + 1) r
theorem idxF_drop {id : Int} {l : List Tok} {k : Nat} {t : Tok} (h : l[k]? = some t) : idxF id k (l.drop k) = if t.id = id then (k : Int) else idxF id (k + 1) (l.drop (k + 1)) := by
 obtain ⟨hk,rfl⟩:=List.getElem?_eq_some_iff.1 h
 rw [List.drop_eq_getElem_cons hk,idxF]
def encI (d : {l : List Tok // l.length ≤ 9000} × Int) : List AV × List ABlk := ([.list 41 (d.1.1.map Tok.c), .fn (.func 55) [] [.ptr 0 0 0 0]],[u8B d.2])
noncomputable def ixS : SpecFn := mkS2 encI fun d => (.int .i64 (idxF d.2 0 d.1.1),[u8B d.2])
noncomputable def ix_specs : NL Spec := [(55,⟨3,fqS⟩)]
theorem ix_specs_ok : ∀ p ∈ ix_specs,FnC Try.prog p.1 p.2.fn := by
 simp only [ix_specs,List.mem_cons,List.not_mem_nil,or_false]
 rintro p rfl
 exact fq_ok
attribute [local simp] ix_specs
theorem fqS_eq (t : Tok) (id : Int) : fqS [.agg t.c, .ptr 0 0 0 0] [u8B id] = some (.bool (t.id == id),[u8B id]) := mkS2_eq encF_inj (t,id)
theorem ix_ok : FnC Try.prog 44 ixS := by
 refine FnC.walkB 44 (fn:=Try.f44) Try.func44 rfl (by kernel_rfl) (fun x b hb=>by simp [encI] at hb; rw [hb]; rfl) fun x=>?_
 obtain ⟨⟨l,hl⟩,id⟩:=x
 change W _ (RetB _ _ 1 (.int .i64 (idxF id 0 l)) [u8B id]) _ _ ⟨19,[(0, .list 41 (l.map Tok.c)),(1, .fn (.func 55) [] [.ptr 0 0 0 0])],[(0,u8B id)]⟩
 have cap : l.length ≤ 9223372036854775807:=by have:=capT (n:=l.length) (by omega); exact this
 repeat (first | refine ZS ?_ | refine ZK tm ix_specs_ok rfl (by conv=>lhs; simp [cap]) fun _=>?_ | refine ZL tm ix_specs_ok rfl (by conv=>lhs; simp [cap]) fun _=>?_)
 refine W.loop rfl (ι:={ q : Nat × NL ABlk // q.1 ≤ l.length ∧ idxF id 0 l = idxF id q.1 (l.drop q.1) ∧ lk q.2 0 = some (u8B id) })
   (fun q=>⟨19,[(0, .list 41 (l.map Tok.c)),(1, .fn (.func 55) [] [.ptr 0 0 0 0]),(7, .int .i64 l.length),(8, .int .i64 (q.1.1 : Nat))],q.1.2⟩) (fun q=>l.length - q.1.1)
   ⟨(0,_),by simp,rfl,rfl⟩ (AS.le_of rfl ⟨rfl,rfl,rfl,rfl,trivial⟩ (fun _=>rfl)) ?_
 rintro ⟨⟨k,h⟩,hk,hf,h1⟩
 dsimp only at hk hf h1 ⊢
 by_cases hk2 : k = l.length
 · subst hk2
   rw [List.drop_length] at hf
   rw [hf]
   simp only [idxF]
   repeat (first | refine ZS ?_ | refine ZK tm ix_specs_ok rfl (by conv=>lhs; simp) fun _=>?_ | refine ZL tm ix_specs_ok rfl (by conv=>lhs; simp) fun _=>?_)
   simp only [u8B] at h1 ⊢
   first | exact retE2_ok false (by conv => lhs; simp [retE2, frqT, frqV, frqVs, frqL, frq1, reachE, blkRefs, outE, nodupE, firstE, seqO, expB2, expF, refsB, refsL, AV.refs, AV.ren, renL, renB, List.range, List.range.loop, resVs, resV, pack, h1]) | fail "no return here"
 · have hlt : k < l.length:=by omega
   obtain ⟨t,hr⟩:=get_lt hlt
   have hm : (l.map Tok.c)[k]? = some t.c:=by rw [List.getElem?_map,hr]; rfl
   have q1 : (k : Int) < l.length:=by omega
   have q2 : ¬ l.length ≤ k:=by omega
   have hw : IntKind.i64.wrap ((k : Int) + 1) = ((k + 1 : Nat) : Int):=w64 (by omega) (by omega)
   rw [idxF_drop hr] at hf
   have cf:=fqS_eq t id
   obtain ⟨a1,a2,o,a3,a4,a5⟩:=t
   simp only [Tok.c,u8B] at hm cf h1
   by_cases hi : a1 = id
   · have e1 : (a1 == id) = true:=by simp [hi]
     rw [if_pos hi] at hf
     rw [hf]
     rw [e1] at cf
     repeat (first | refine ZS ?_ | refine ZK tm ix_specs_ok rfl (by conv=>lhs; simp [q1,q2,hm,h1,cf]) fun _=>?_ | refine ZL tm ix_specs_ok rfl (by conv=>lhs; simp [q1,q2,hm,h1,cf]) fun _=>?_)
     simp only [u8B]
     first | exact retE2_ok false (by conv => lhs; simp [retE2, frqT, frqV, frqVs, frqL, frq1, reachE, blkRefs, outE, nodupE, firstE, seqO, expB2, expF, refsB, refsL, AV.refs, AV.ren, renL, renB, List.range, List.range.loop, resVs, resV, pack, h1]) | fail "no return here"
   · have e1 : (a1 == id) = false:=by simp [hi]
     rw [if_neg hi] at hf
     rw [e1] at cf
     repeat (first | refine ZS ?_ | refine ZK tm ix_specs_ok rfl (by conv=>lhs; simp [q1,q2,hm,h1,cf,hw]) fun _=>?_ | refine ZL tm ix_specs_ok rfl (by conv=>lhs; simp [q1,q2,hm,h1,cf,hw]) fun _=>?_)
     exact ⟨⟨(k + 1,_),hlt,hf,by simp [lk_st,h1,u8B]⟩,by dsimp only; omega,AS.le_of rfl ⟨rfl,rfl,rfl,rfl,trivial⟩ (fun _=>rfl)⟩
theorem encI_inj {β : Type} {f : {l : List Tok // l.length ≤ 9000} × Int → β} : ∀ x y,encI x = encI y → f x = f y := fun x y h => by
 obtain ⟨⟨a,ha⟩,b⟩:=x
 obtain ⟨⟨a',ha'⟩,b'⟩:=y
 simp only [encI,u8B,Prod.mk.injEq,List.cons.injEq,AV.list.injEq,AV.int.injEq,ABlk.mk.injEq,true_and,and_true] at h
 obtain ⟨h1,rfl⟩:=h
 cases rows_inj h1
 rfl
theorem ixS_eq (l : List Tok) (hl : l.length ≤ 9000) (id : Int) : ixS [.list 41 (l.map Tok.c), .fn (.func 55) [] [.ptr 0 0 0 0]] [u8B id] = some (.int .i64 (idxF id 0 l),[u8B id]) := mkS2_eq encI_inj (⟨l,hl⟩,id)
theorem idxF_fnd (id : Int) : ∀ (l : List Tok) (k : Nat),(fnd id l = none ∧ idxF id k l = -1) ∨ ∃ j t,l[j]? = some t ∧ fnd id l = some t ∧ idxF id k l = ((k + j : Nat) : Int)
 | [],k => .inl ⟨rfl,rfl⟩
 | t :: r,k=>by
   unfold fnd idxF
   by_cases h : t.id = id
   · rw [if_pos h,if_pos h]
     exact .inr ⟨0,t,rfl,rfl,rfl⟩
   · rw [if_neg h,if_neg h]
     rcases idxF_fnd id r (k + 1) with h1 | ⟨j,s,h1,h2,h3⟩
     · exact .inl h1
     · exact .inr ⟨j + 1,s,h1,h2,by rw [h3]; congr 1; omega⟩
noncomputable def fd_specs : NL Spec := [(44,⟨3,ixS⟩)]
theorem fd_specs_ok : ∀ p ∈ fd_specs,FnC Try.prog p.1 p.2.fn := by
 simp only [fd_specs,List.mem_cons,List.not_mem_nil,or_false]
 rintro p rfl
 exact ix_ok
attribute [local simp] fd_specs
theorem fd_ok : FnC Try.prog 27 fndS := by
 refine FnC.walkN 27 (fn:=Try.f27) [71] Try.func27 rfl (by kernel_rfl) (fun d=>?_) (fun d=>⟨_,tok_nrmV _⟩)
 obtain ⟨⟨nd,l,hl⟩,id⟩:=d
 have ci:=ixS_eq l hl id
 simp only [u8B] at ci
 change W _ (RetNf _ _ _ (.agg ((fnd id l).getD (tok0 id)).c) []) _ _ ⟨19,[(0, .agg [.int .i64 nd, .list 41 (l.map Tok.c)]),(1, .int .u64 id)],[]⟩
 have cap : l.length ≤ 9223372036854775807:=by have:=capT (n:=l.length) (by omega); exact this
 rcases idxF_fnd id l 0 with ⟨h1,h2⟩ | ⟨j,t,h1,h2,h3⟩
 · rw [h1]
   rw [h2] at ci
   repeat (first | refine ZS ?_ | refine ZK tm fd_specs_ok rfl (by conv=>lhs; simp [ci,zO]) fun _=>?_ | refine ZL tm fd_specs_ok rfl (by conv=>lhs; simp [ci,zO]) fun _=>?_)
   refine ⟨.agg (.int .u64 id :: .int .i64 0 :: (zO ++ [.int .i64 0, .bool false, .bool false])), ?_, ?_⟩
   · simp only [zO,List.cons_append,List.nil_append]
     exact Yr
   · simp only [nrmR,nrmV,tok_nrm0]
     rfl
 · rw [h2]
   rw [h3,Nat.zero_add] at ci
   have hm : (l.map Tok.c)[j]? = some t.c:=by rw [List.getElem?_map,h1]; rfl
   have hj : j < l.length:=(List.getElem?_eq_some_iff.1 h1).1
   have q1 : ¬ (j : Int) < 0:=by omega
   have q2 : ¬ l.length ≤ j:=by omega
   obtain ⟨a1,a2,o,a3,a4,a5⟩:=t
   simp only [Tok.c] at hm
   clear hj
   repeat (first | refine ZS ?_ | refine ZK tm fd_specs_ok rfl (by conv=>lhs; simp [ci,q1,q2,hm]) fun _=>?_ | refine ZL tm fd_specs_ok rfl (by conv=>lhs; simp [ci,q1,q2,hm]) fun _=>?_)
   refine ⟨_, ?_,tok_nrmV _⟩
   simp only [Option.getD_some,Tok.c]
   exact Yr
noncomputable def hoS : SpecFn := mkS (fun d : Tks × Int × Int => [d.1.v, .int .u64 d.2.1, .int .i64 d.2.2]) fun d => (.bool (okM d.2.2 && decide (d.2.2 ≤ ((fnd d.2.1 d.1.toks).getD (tok0 d.2.1)).mode)),[])
theorem hoS_eq (d : Tks) (id m : Int) : hoS [d.v, .int .u64 id, .int .i64 m] [] = some (.bool (okM m && decide (m ≤ ((fnd id d.toks).getD (tok0 id)).mode)),[]) :=
 mkS_eq (enc:=fun d : Tks × Int × Int=>[d.1.v, .int .u64 d.2.1, .int .i64 d.2.2]) (fun x y h=>by
   obtain ⟨a,b,c⟩:=x
   obtain ⟨a',b',c'⟩:=y
   simp only [List.cons.injEq,AV.int.injEq,true_and,and_true] at h
   obtain ⟨h,rfl,rfl⟩:=h
   cases Tks.v_inj h
   rfl) (d,id,m)
noncomputable def ho_specs : NL Spec := [(25,⟨1,boS okM⟩),(27,⟨1,fndS⟩)]
theorem ho_specs_ok : ∀ p ∈ ho_specs,FnC Try.prog p.1 p.2.fn := by
 simp only [ho_specs,List.mem_cons,List.not_mem_nil,or_false]
 rintro p (rfl | rfl)
 · exact mo1_ok
 · exact fd_ok
attribute [local simp] ho_specs
theorem ho_ok : FnC Try.prog 11 hoS := by
 refine FnC.walk 11 (fn:=Try.f11) Try.func11 rfl (by kernel_rfl) fun d=>?_
 obtain ⟨d,id,m⟩:=d
 have cm:=boS_eq okM m
 have cf:=fndS_eq d id
 simp only [Tks.v] at cf
 change W _ (Ret _ _ (.bool (okM m && decide (m ≤ ((fnd id d.toks).getD (tok0 id)).mode))) []) _ _ ⟨17,[(0, .agg [.int .i64 d.node, .list 41 (d.toks.map Tok.c)]),(1, .int .u64 id),(2, .int .i64 m)],[]⟩
 generalize (fnd id d.toks).getD (tok0 id) = t at *
 obtain ⟨a1,a2,o,a3,a4,a5⟩:=t
 obtain ⟨nd,l,hl⟩:=d
 dsimp only [Tok.c] at cf ⊢
 generalize okM m = om at *
 cases om with
 | false =>
   repeat (first | refine ZS ?_ | refine ZK tm ho_specs_ok rfl (by conv=>lhs; simp [cm]) fun _=>?_ | refine ZL tm ho_specs_ok rfl (by conv=>lhs; simp [cm]) fun _=>?_)
   simp only [Bool.false_and]
   exact Yr
 | true =>
   repeat (first | refine ZS ?_ | refine ZK tm ho_specs_ok rfl (by conv=>lhs; simp [cm,cf]) fun _=>?_ | refine ZL tm ho_specs_ok rfl (by conv=>lhs; simp [cm,cf]) fun _=>?_)
   simp only [Bool.true_and]
   exact Yr
end
section
attribute [local simp] instA
attribute [-simp] mkv
attribute [local simp] mkv_hd hdA_cons hdA_ob hdA_ob'
end
section
def byte (b : UInt8) : List AV := [.int .u8 b.toNat]
def dn (l : List UInt8) (n : Int) : Int := match l with
 | []=>0
 | b :: _=>if n ≤ 1 then 0 else (b.toNat : Int).tmod n
def dl (l : List UInt8) (n : Int) : List UInt8 := match l with
 | []=>[]
 | b :: r=>if n ≤ 1 then b :: r else r
attribute [local simp] convertA sliceArrA sliceA bndA nilCheckA
attribute [local simp] sliceArrA sliceA bndA mmA placesA
end
section
attribute [local simp] instA binOpA
structure Idp where
 a : Int
 b : Int
 c : Int
 h1 : 0 ≤ a
 h2 : a ≤ 127
 h3 : 0 ≤ b
 h4 : b ≤ 65535
 h5 : 1 ≤ c
 h6 : c ≤ 1099511627775
def d1 (l : List UInt8) : List UInt8 := dl l 3
def d2 (l : List UInt8) : List UInt8 := dl (d1 l) 2
def d3 (l : List UInt8) : List UInt8 := dl (d2 l) 9
end
section
attribute [local simp] instA
attribute [-simp] mkv
attribute [local simp] mkv_hd hdA_cons hdA_ob hdA_ob'
def rU (n : Int) (l : List Tok) (ms : List Msg) (e : Int) : AV := .tup [.agg [.int .i64 n, .list 41 (l.map Tok.c)], .list 45 (ms.map Msg.v), .int .i64 e]
theorem msS : Try.prog.underlying 61 = some (.slice 75) := by kernel_rfl
theorem msC : Try.prog.cellsOf 75 = 45 := by kernel_rfl
theorem ms_nrm (ms : List Msg) : nrmV Try.prog 61 (.list 45 (ms.map Msg.v)) = .list 45 (ms.map Msg.v) := by
 rw [nrmV]
 simp only [msS,nrmRows_map msg_nrm]
theorem ms_nrm0 : nrmV Try.prog 61 .nils = .list 45 (([] : List Msg).map Msg.v) := by
 rw [nrmV]
 simp only [msS,msC,List.map_nil]
theorem rU_nrm (n : Int) (l : List Tok) (ms : List Msg) (e : Int) : nrmR Try.prog [30,61,38] (rU n l ms e) = rU n l ms e := by
 simp only [rU,nrmR,nrmL,tks_nrmV,ms_nrm]
 simp only [nrmV]
theorem rU_nrmN (n : Int) (l : List Tok) (e : Int) : nrmR Try.prog [30,61,38] (.tup [.agg [.int .i64 n, .list 41 (l.map Tok.c)], .nils, .int .i64 e]) = rU n l [] e := by
 simp only [rU,nrmR,nrmL,tks_nrmV,ms_nrm0]
 simp only [nrmV]
theorem rU_nrm0 (e : Int) : nrmR Try.prog [30,61,38] (.tup [.agg [.int .i64 0, .nils], .nils, .int .i64 e]) = rU 0 [] [] e := by
 simp only [rU,nrmR,nrmL,tks_nrmV0,ms_nrm0]
 simp only [nrmV]
theorem rU_nrm1 (n : Int) (l : List Tok) (f t k i m e : Int) : nrmR Try.prog [30,61,38] (.tup [.agg [.int .i64 n, .list 41 (l.map Tok.c)], .list 45 [.int .i64 f :: .int .i64 t :: .int .i64 k :: .int .u64 i :: .int .i64 m :: (zO ++ [.int .u64 0, .int .i64 0, .int .u64 0, .int .i64 0])], .int .i64 e]) = rU n l [⟨f,t,k,i,m,zOb,0,0,0,0⟩] e := by
 have h : nrmV Try.prog 61 (.list 45 [.int .i64 f :: .int .i64 t :: .int .i64 k :: .int .u64 i :: .int .i64 m :: (zO ++ [.int .u64 0, .int .i64 0, .int .u64 0, .int .i64 0])]) = .list 45 ([(⟨f,t,k,i,m,zOb,0,0,0,0⟩ : Msg)].map Msg.v):=by
   rw [nrmV]
   simp only [msS,nrmRows,msg_nrm0,List.map_cons,List.map_nil]
 simp only [rU,nrmR,nrmL,tks_nrmV,h]
 simp only [nrmV]
noncomputable def wnt (d : Tks) (id m home : Int) : Int × List Tok × List Msg × Int :=
 if valid d.node d.toks = false then (0,[],[],1) else if id = 0 then (0,[],[],2) else if okM m = false then (0,[],[],2) else if okN home = false then (0,[],[],2) else
   let t:=(fnd id d.toks).getD (tok0 id)
   if m ≤ t.mode then (d.node,d.toks,[],0) else if t.want ≠ 0 then (d.node,d.toks,[],0) else (d.node,put { t with want:=m } d.toks,[⟨d.node,home,1,id,m,zOb,0,0,0,0⟩],0)
noncomputable def wntS : SpecFn := mkS (fun d : Tks × Int × Int × Int => [d.1.v, .int .u64 d.2.1, .int .i64 d.2.2.1, .int .i64 d.2.2.2]) fun d => (rU (wnt d.1 d.2.1 d.2.2.1 d.2.2.2).1 (wnt d.1 d.2.1 d.2.2.1 d.2.2.2).2.1 (wnt d.1 d.2.1 d.2.2.1 d.2.2.2).2.2.1 (wnt d.1 d.2.1 d.2.2.1 d.2.2.2).2.2.2,[])
end
section
attribute [local simp] instA
attribute [-simp] mkv
attribute [local simp] mkv_hd hdA_cons hdA_ob hdA_ob'
noncomputable def grtT (t : Tok) (m : Msg) : Tok := { t with mode := m.mode,obj := m.obj,want := if t.want ≤ m.mode then 0 else t.want }
noncomputable def grt (d : Tks) (m : Msg) : Int × List Tok × Int :=
 if valid d.node d.toks = false then (0,[],1) else if m.kind ≠ 2 then (0,[],10) else if m.to ≠ d.node then (0,[],10) else if okM m.mode = false then (0,[],10) else if zO? m.obj = false ∧ oid m.obj ≠ m.id then (0,[],10) else
   let t:=(fnd m.id d.toks).getD (tok0 m.id)
   if t.want = 0 then (0,[],8) else (d.node,put (grtT t m) d.toks,0)
noncomputable def grtS : SpecFn := mkS (fun d : Tks × Msg => [d.1.v, .agg d.2.v]) fun d => (rT (grt d.1 d.2).1 (grt d.1 d.2).2.1 (grt d.1 d.2).2.2,[])
end
section
attribute [local simp] instA
attribute [-simp] mkv
attribute [local simp] mkv_hd hdA_cons hdA_ob hdA_ob'
noncomputable def rvk (d : Tks) (m : Msg) : Int × List Tok × List Msg × Int :=
 if valid d.node d.toks = false then (0,[],[],1) else if m.kind ≠ 3 then (0,[],[],10) else if m.to ≠ d.node then (0,[],[],10) else
   let t:=(fnd m.id d.toks).getD (tok0 m.id)
   if t.mode = 0 then (d.node,d.toks,[],0) else if t.pin = true then (d.node,put { t with due:=true } d.toks,[],0) else (d.node,put (bckT t) d.toks,[bckM d.node t m.fr],0)
noncomputable def rvkS : SpecFn := mkS (fun d : Tks × Msg => [d.1.v, .agg d.2.v]) fun d => (rU (rvk d.1 d.2).1 (rvk d.1 d.2).2.1 (rvk d.1 d.2).2.2.1 (rvk d.1 d.2).2.2.2,[])
end
end Go.Abs.Np
namespace Go.Abs.Np
open Go Go.Proofs Go.Abs
set_option linter.unusedSimpArgs false
set_option linter.unusedVariables false
section

end
end Go.Abs.Np
namespace Go.Abs.Np
open Go Go.Proofs Go.Abs
set_option maxRecDepth 100000
set_option maxHeartbeats 4000000
set_option linter.unusedSimpArgs false
set_option linter.unusedVariables false
section
attribute [local simp] instA
attribute [-simp] mkv
attribute [local simp] mkv_hd hdA_cons hdA_ob hdA_ob'
noncomputable def pn1S : SpecFn := mkS (fun d : Tok => [.agg d.c]) fun d => (.agg ({ d with pin := true } : Tok).c,[])
theorem pn1_ok : FnC Try.prog 31 pn1S := by
 refine FnC.walk 31 (fn:=Try.f31) Try.func31 rfl (by kernel_rfl) fun d=>?_
 obtain ⟨a1,a2,o,a3,a4,a5⟩:=d
 change W _ (Ret _ _ (.agg (.int .u64 a1 :: .int .i64 a2 :: (o.cells ++ [.int .i64 a3, .bool true, .bool a5]))) []) _ _ ⟨5,[(0, .agg (.int .u64 a1 :: .int .i64 a2 :: (o.cells ++ [.int .i64 a3, .bool a4, .bool a5])))],[]⟩
 repeat (first | refine ZS ?_ | refine ZK tm no_specs rfl (by conv=>lhs; simp) fun _=>?_ | refine ZL tm no_specs rfl (by conv=>lhs; simp) fun _=>?_)
 exact Yr
def obB (o : Ob) : ABlk := { gen := 0,kind := 2,elem := 60,size := 36,inl := false,rows := [o.cells] }
def encO (d : Tok × Ob) : List AV × List ABlk := ([.agg d.1.c, .ptr 0 0 0 0],[obB d.2])
noncomputable def mq1S : SpecFn := mkS2 encO fun d => (.bool (d.1.id == oid d.2),[obB d.2])
theorem mq1_ok : FnC Try.prog 20 mq1S := by
 refine FnC.walkB 20 (fn:=Try.f20) Try.func20 rfl (by kernel_rfl) (fun x b hb=>by simp [encO] at hb; rw [hb]; rfl) fun x=>?_
 obtain ⟨⟨a1,a2,o,a3,a4,a5⟩,q⟩:=x
 change W _ (RetB _ _ 1 (.bool (a1 == oid q)) [obB q]) _ _ ⟨9,[(0, .agg (.int .u64 a1 :: .int .i64 a2 :: (o.cells ++ [.int .i64 a3, .bool a4, .bool a5]))),(1, .ptr 0 0 0 0)],[(0,obB q)]⟩
 repeat (first | refine ZS ?_ | refine ZK tm no_specs rfl (by conv=>lhs; simp [obB]) fun _=>?_ | refine ZL tm no_specs rfl (by conv=>lhs; simp [obB]) fun _=>?_)
 simp only [obB]
 first | exact retE2_ok false (by conv => lhs; simp [retE2, frqT, frqV, frqVs, frqL, frq1, reachE, blkRefs, outE, nodupE, firstE, seqO, expB2, expF, refsB, refsL, AV.refs, AV.ren, renL, renB, List.range, List.range.loop, resVs, resV, pack]) | fail "no return here"
noncomputable def pt_specs : NL Spec := [(24,⟨1,cobS⟩)]
theorem pt_specs_ok : ∀ p ∈ pt_specs,FnC Try.prog p.1 p.2.fn := by
 simp only [pt_specs,List.mem_cons,List.not_mem_nil,or_false]
 rintro p rfl
 exact cob_ok
attribute [local simp] pt_specs
noncomputable def pu1S : SpecFn := mkS2 encO fun d => (.agg ({ d.1 with obj := d.2 } : Tok).c,[obB d.2])
theorem pu1_ok : FnC Try.prog 33 pu1S := by
 refine FnC.walkB 33 (fn:=Try.f33) Try.func33 rfl (by kernel_rfl) (fun x b hb=>by simp [encO] at hb; rw [hb]; rfl) fun x=>?_
 obtain ⟨⟨a1,a2,o,a3,a4,a5⟩,q⟩:=x
 have co:=cobS_eq q
 change W _ (RetB _ _ 1 (.agg (.int .u64 a1 :: .int .i64 a2 :: (q.cells ++ [.int .i64 a3, .bool a4, .bool a5]))) [obB q]) _ _ ⟨8,[(0, .agg (.int .u64 a1 :: .int .i64 a2 :: (o.cells ++ [.int .i64 a3, .bool a4, .bool a5]))),(1, .ptr 0 0 0 0)],[(0,obB q)]⟩
 repeat (first | refine ZS ?_ | refine ZK tm pt_specs_ok rfl (by conv=>lhs; simp [obB,co]) fun _=>?_ | refine ZL tm pt_specs_ok rfl (by conv=>lhs; simp [obB,co]) fun _=>?_)
 simp only [obB]
 first | exact retE2_ok false (by conv => lhs; simp [retE2, frqT, frqV, frqVs, frqL, frq1, reachE, blkRefs, outE, nodupE, firstE, seqO, expB2, expF, refsB, refsL, AV.refs, AV.ren, renL, renB, List.range, List.range.loop, resVs, resV, pack]) | fail "no return here"
noncomputable def mq2S : SpecFn := mkS2 encO fun d => (.agg (⟨oid d.2,2,d.2,0,false,false⟩ : Tok).c,[obB d.2])
theorem mq2_ok : FnC Try.prog 23 mq2S := by
 refine FnC.walkB 23 (fn:=Try.f23) Try.func23 rfl (by kernel_rfl) (fun x b hb=>by simp [encO] at hb; rw [hb]; rfl) fun x=>?_
 obtain ⟨⟨a1,a2,o,a3,a4,a5⟩,q⟩:=x
 have co:=cobS_eq q
 change W _ (RetB _ _ 1 (.agg (.int .u64 (oid q) :: .int .i64 2 :: (q.cells ++ [.int .i64 0, .bool false, .bool false]))) [obB q]) _ _ ⟨9,[(0, .agg (.int .u64 a1 :: .int .i64 a2 :: (o.cells ++ [.int .i64 a3, .bool a4, .bool a5]))),(1, .ptr 0 0 0 0)],[(0,obB q)]⟩
 repeat (first | refine ZS ?_ | refine ZK tm pt_specs_ok rfl (by conv=>lhs; simp [obB,co]) fun _=>?_ | refine ZL tm pt_specs_ok rfl (by conv=>lhs; simp [obB,co]) fun _=>?_)
 simp only [obB]
 first | exact retE2_ok false (by conv => lhs; simp [retE2, frqT, frqV, frqVs, frqL, frq1, reachE, blkRefs, outE, nodupE, firstE, seqO, expB2, expF, refsB, refsL, AV.refs, AV.ren, renL, renB, List.range, List.range.loop, resVs, resV, pack]) | fail "no return here"
end
section
attribute [local simp] instA
noncomputable def un_specs : NL Spec := [(26,⟨1,boS okN⟩)]
theorem un_specs_ok : ∀ p ∈ un_specs,FnC Try.prog p.1 p.2.fn := by
 simp only [un_specs,List.mem_cons,List.not_mem_nil,or_false]
 rintro p rfl
 exact no1_ok
attribute [local simp] un_specs
theorem un1_ok : FnC Try.prog 41 (boS fun m => !okN m) := by
 refine FnC.walk 41 (fn:=Try.f41) Try.func41 rfl (by kernel_rfl) fun m=>?_
 have c:=boS_eq okN m
 change W _ (Ret _ _ (.bool (!okN m)) []) _ _ ⟨6,[(0, .int .i64 m)],[]⟩
 repeat (first | refine ZS ?_ | refine ZK tm un_specs_ok rfl (by conv=>lhs; simp [c]) fun _=>?_ | refine ZL tm un_specs_ok rfl (by conv=>lhs; simp [c]) fun _=>?_)
 exact Yr
end
section
attribute [local simp] instA
def iC (m : Int) : List AV := [.int .i64 m]
def idxN : Nat → List Int → Int
 | _,[] => -1
 | k,m :: r=>if okN m = false then (k : Int) else idxN (k + 1) r
theorem idxN_drop {l : List Int} {k : Nat} {m : Int} (h : l[k]? = some m) : idxN k (l.drop k) = if okN m = false then (k : Int) else idxN (k + 1) (l.drop (k + 1)) := by
 obtain ⟨hk,rfl⟩:=List.getElem?_eq_some_iff.1 h
 rw [List.drop_eq_getElem_cons hk,idxN]
noncomputable def xnS : SpecFn := mkS (fun d : {l : List Int // l.length ≤ 9000} => [.list 1 (d.1.map iC), .fn (.func 41) [] []]) fun d => (.int .i64 (idxN 0 d.1),[])
noncomputable def xn_specs : NL Spec := [(41,⟨1,boS fun m => !okN m⟩)]
theorem xn_specs_ok : ∀ p ∈ xn_specs,FnC Try.prog p.1 p.2.fn := by
 simp only [xn_specs,List.mem_cons,List.not_mem_nil,or_false]
 rintro p rfl
 exact un1_ok
attribute [local simp] xn_specs
theorem xn_ok : FnC Try.prog 70 xnS := by
 refine FnC.walk 70 (fn:=Try.f70) Try.func70 rfl (by kernel_rfl) fun x=>?_
 obtain ⟨l,hl⟩:=x
 change W _ (Ret _ _ (.int .i64 (idxN 0 l)) []) _ _ ⟨19,[(0, .list 1 (l.map iC)),(1, .fn (.func 41) [] [])],[]⟩
 have cap : l.length ≤ 9223372036854775807:=by have:=capT (n:=l.length) (by omega); exact this
 repeat (first | refine ZS ?_ | refine ZK tm xn_specs_ok rfl (by conv=>lhs; simp [cap]) fun _=>?_ | refine ZL tm xn_specs_ok rfl (by conv=>lhs; simp [cap]) fun _=>?_)
 refine W.loop rfl (ι:={ q : Nat // q ≤ l.length ∧ idxN 0 l = idxN q (l.drop q) })
   (fun q=>⟨19,[(0, .list 1 (l.map iC)),(1, .fn (.func 41) [] []),(7, .int .i64 l.length),(8, .int .i64 (q.1 : Nat))],[]⟩) (fun q=>l.length - q.1)
   ⟨0,by simp,rfl⟩ (AS.le_of rfl ⟨rfl,rfl,rfl,rfl,trivial⟩ (fun _=>rfl)) ?_
 rintro ⟨k,hk,hf⟩
 dsimp only at hk hf ⊢
 by_cases hk2 : k = l.length
 · subst hk2
   rw [List.drop_length] at hf
   rw [hf]
   simp only [idxN]
   repeat (first | refine ZS ?_ | refine ZK tm xn_specs_ok rfl (by conv=>lhs; simp) fun _=>?_ | refine ZL tm xn_specs_ok rfl (by conv=>lhs; simp) fun _=>?_)
   exact Yr
 · have hlt : k < l.length:=by omega
   obtain ⟨m,hr⟩:=get_lt hlt
   have hm : (l.map iC)[k]? = some [.int .i64 m]:=by rw [List.getElem?_map,hr]; rfl
   have q1 : (k : Int) < l.length:=by omega
   have q2 : ¬ l.length ≤ k:=by omega
   have hw : IntKind.i64.wrap ((k : Int) + 1) = ((k + 1 : Nat) : Int):=w64 (by omega) (by omega)
   rw [idxN_drop hr] at hf
   have cf:=boS_eq (fun m => !okN m) m
   cases ho : okN m with
   | false =>
     rw [if_pos ho] at hf
     rw [hf]
     rw [ho] at cf
     repeat (first | refine ZS ?_ | refine ZK tm xn_specs_ok rfl (by conv=>lhs; simp [q1,q2,hm,cf]) fun _=>?_ | refine ZL tm xn_specs_ok rfl (by conv=>lhs; simp [q1,q2,hm,cf]) fun _=>?_)
     exact Yr
   | true =>
     rw [if_neg (by simp [ho])] at hf
     rw [ho] at cf
     repeat (first | refine ZS ?_ | refine ZK tm xn_specs_ok rfl (by conv=>lhs; simp [q1,q2,hm,cf,hw]) fun _=>?_ | refine ZL tm xn_specs_ok rfl (by conv=>lhs; simp [q1,q2,hm,cf,hw]) fun _=>?_)
     exact ⟨⟨k + 1,hlt,hf⟩,by dsimp only; omega,AS.le_of rfl ⟨rfl,rfl,rfl,rfl,trivial⟩ (fun _=>rfl)⟩
end
section
theorem AVi {k : IntKind} {a b : Int} (h : AV.int k a = AV.int k b) : a = b := by cases h; rfl
theorem AVg {a b : List AV} (h : AV.agg a = AV.agg b) : a = b := by cases h; rfl
theorem AVl {n : Nat} {a b : List (List AV)} (h : AV.list n a = AV.list n b) : a = b := by cases h; rfl
theorem map_inj' {α β : Type} {f : α → β} (hf : ∀ a b,f a = f b → a = b) : ∀ {s t : List α},s.map f = t.map f → s = t
 | [],[],_=>rfl
 | [],_ :: _,h=>by simp at h
 | _ :: _,[],h=>by simp at h
 | x :: r,y :: q,h=>by
   simp only [List.map_cons,List.cons.injEq] at h
   rw [hf _ _ h.1,map_inj' hf h.2]
end
section
attribute [local simp] slice3A slice3C instA
theorem ovlB48 : ovlB Try.prog 72 = true := by kernel_rfl
theorem ovlT48 : ovlT Try.prog 72 = some (28,41) := by kernel_rfl
theorem ins_grow48 {α : Type} {l : List α} {n i : Nat} {t z : α} (hn : l.length = n) (hi : i ≤ l.length) :
   List.take (i + 1) (List.take i l ++ t :: List.replicate (n - i) z) ++ (List.take (n - i) (List.take (n - i) (List.drop i l)) ++ List.drop (i + 1 + (n - i)) (List.take i l ++ t :: List.replicate (n - i) z)) = List.take i l ++ t :: List.drop i l:=by
 subst hn
 have h1 : (List.take i l).length = i:=by rw [List.length_take]; omega
 have h2 : (List.drop i l).length = l.length - i:=List.length_drop
 generalize List.take i l = A at h1 ⊢
 generalize List.drop i l = B at h2 ⊢
 subst h1
 rw [List.take_append,List.drop_append,List.take_of_length_le (Nat.le_succ _),show A.length + 1 - A.length = 1 from by omega,List.take_succ_cons,List.take_zero,
   List.drop_of_length_le (by omega),List.nil_append,show A.length + 1 + (l.length - A.length) - A.length = (l.length - A.length) + 1 from by omega,List.drop_succ_cons,List.drop_of_length_le (by simp),
   List.append_nil,List.take_take,Nat.min_self,List.take_of_length_le (by omega),List.append_assoc]
 rfl
theorem ins_place48 {α : Type} {l : List α} {i : Nat} {X : List α} (hi : i ≤ l.length) : List.take i (List.take (i + 1) l ++ List.drop i l) ++ X = List.take i l ++ X := by
 congr 1
 rw [List.take_append,List.take_take,Nat.min_eq_left (Nat.le_succ i),show i - (List.take (i + 1) l).length = 0 from by rw [List.length_take]; omega,List.take_zero,List.append_nil]
theorem insert48_ok : FnC Try.prog 48 (insertC 71 41 496) := by
 refine FnC.ofV 48 (fn:=Try.f48) Try.func48 rfl (by kernel_rfl) fun args B r B' hS=>?_
 unfold insertC at hS
 split at hS
 · rename_i len i b c
   split at hS
   · rename_i hc
     obtain ⟨hb,hcc,rfl,k1,k2,k3,k4,k5⟩:=hc
     simp only [Option.some.injEq,Prod.mk.injEq] at hS
     obtain ⟨rfl,rfl⟩:=hS
     rw [okB_eq hb,okB_eq hcc]
     generalize b.rows = l at k2 k3 k5 ⊢
     generalize c.rows = cr at k1 ⊢
     obtain ⟨t,rfl⟩ : ∃ t,cr = [t]:=List.length_eq_one_iff.1 k1
     obtain ⟨i,rfl⟩ : ∃ n : Nat,i = n:=⟨i.toNat,by omega⟩
     have hi : i ≤ l.length:=by omega
     simp only [Int.toNat_natCast]
     refine ⟨by simp, ?_⟩
     change V _ (RetM _ _ 2 _ _) _ _ ⟨95,[(0, .sl 0 0 0 l.length),(1, .int .i64 (i : Nat)),(2, .sl 1 0 0 1)],[(0, { gen:=0,kind:=2,elem:=71,size:=41,inl:=true,rows:=l }),(1, { gen:=0,kind:=2,elem:=71,size:=41,inl:=true,rows:=[t] })]⟩
     have c1 : l.length + 1 ≤ 9223372036854775807:=by omega
     have c2 : l.length ≤ 9223372036854775807:=by omega
     have c3 : l.length * 496 ≤ 140737488355328:=by omega
     have c4 : (l.length + 1) * 496 ≤ 140737488355328:=k2
     have m1' : (1 : Nat) ≤ maxLen:=by decide
     try simp only [Nat.mul_one] at c3 c4
     by_cases hin : i = l.length
     · subst hin
       clear hi k3 k4 k5 k2
       repeat (first | refine YS ?_ | refine V.region tm no_specs rfl (by conv=>lhs; simp [c1,c2,c3,c4,maxLen,m1']) fun _=>?_ | refine YL tm no_specs rfl (by conv=>lhs; simp [c1,c2,c3,c4,maxLen,m1']) fun _=>?_)
       refine retM2_ok false [0,1] [1,0] ?_
       simp [retM2,movedOK,oldOK,frqT,frqV,frqVs,frqL,frq1,expG,expB3,renB,AV.ren,renL,List.range,List.range.loop,resVs,resV,pack,List.zipWith,List.idxOf?,List.findIdx?,List.findIdx?.go,rowB]
     · have hlt : i < l.length:=by omega
       have e1 : ((i : Int) == (l.length : Int)) = false:=by simpa using fun h=>hin (by omega)
       refine V.caps (t:=0) rfl rfl rfl fun cap hc1 hc2=>?_
       have hic : i ≤ cap:=by omega
       have hwi : IntKind.i64.wrap ((i : Int) + 1) = ((i + 1 : Nat) : Int):=by rw [show (i : Int) + 1 = ((i + 1 : Nat) : Int) from by omega]; exact w64 (by omega) (by omega)
       have hw : IntKind.i64.wrap ((l.length : Int) + 1) = (l.length : Int) + 1:=w64 (by omega) (by omega)
       have hw2 : IntKind.i64.wrap ((l.length : Int) + 1 - i) = ((l.length + 1 - i : Nat) : Int):=by rw [show (l.length : Int) + 1 - i = ((l.length + 1 - i : Nat) : Int) from by omega]; exact w64 (by omega) (by omega)
       by_cases hcap : cap < l.length + 1
       · have hcap' : (cap : Int) < l.length + 1:=by omega
         have n1 : i + (l.length + 1 - i) = l.length + 1:=by omega
         have n3 : i ≤ l.length + 1:=by omega
         have n4 : 0 < l.length + 1 - i:=by omega
         have n5 : min i l.length = i:=by omega
         have n6 : List.take (l.length + 1 - i) [t] = [t]:=List.take_of_length_le (by simp; omega)
         have n7 : min (l.length + 1 - i) 1 = 1:=by omega
         have n8 : ∀ z,List.drop (i + 1) (List.take i l ++ List.replicate (l.length + 1 - i) z) = List.replicate (l.length - i) z:=fun z=>by
           rw [List.drop_append,List.drop_of_length_le (by simp; omega)]
           simp only [List.length_take,n5,List.nil_append,List.drop_replicate]
           congr 1
           omega
         have n9 : l.length ≤ i + (l.length - i):=by omega
         have n10 : (0 : Int) ≤ (i : Int) + 1:=by omega
         clear k3 k4 k5 k2 hin
         repeat (first | refine YS ?_ | refine V.region tm no_specs rfl (by conv=>lhs; simp [c1,c2,c3,c4,maxLen,e1,hi,hc1,hic,hcap,hcap',hw,hw2,n1,n3,n4,n5,n6,n7,n8,hwi,n9,n10]) fun _=>?_ | refine YL tm no_specs rfl (by conv=>lhs; simp [c1,c2,c3,c4,maxLen,e1,hi,hc1,hic,hcap,hcap',hw,hw2,n1,n3,n4,n5,n6,n7,n8,hwi,n9,n10]) fun _=>?_)
         refine retM2_ok false [656,1] [1,0] ?_
         simp [retM2,movedOK,oldOK,frqT,frqV,frqVs,frqL,frq1,expG,expB3,renB,AV.ren,renL,List.range,List.range.loop,resVs,resV,pack,List.zipWith,List.idxOf?,List.findIdx?,List.findIdx?.go,rowB]
         exact ins_grow48 (by simp) (by simpa using hi)
       · have hcap' : ¬ (cap : Int) < l.length + 1:=by omega
         have hcap2 : l.length + 1 ≤ cap:=by omega
         have n3 : i ≤ l.length + 1:=by omega
         have n9 : l.length ≤ i + (l.length - i):=by omega
         have n10 : (0 : Int) ≤ (i : Int) + 1:=by omega
         have hw3 : (0 : Int) ≤ (l.length : Int) + 1:=by omega
         have n12 : i + 1 ≤ l.length:=hlt
         have n11 : min (l.length - i) (l.length + 1 - i) = l.length - i:=by omega
         have n6 : List.take (l.length + 1 - i) [t] = [t]:=List.take_of_length_le (by simp; omega)
         have n7 : min (l.length + 1 - i) 1 = 1:=by omega
         have n13 : List.take (l.length - i) (List.take (l.length - i) (List.drop i l)) = List.drop i l:=by
           rw [List.take_take,Nat.min_self,List.take_of_length_le (by simp)]
         have n14 : List.drop (i + 1 + (l.length - i)) l = []:=List.drop_of_length_le (by omega)
         have n15 : i ≤ i + 1 + (l.length - i):=by omega
         clear k3 k4 k5 k2 hin
         repeat (first | refine YU ?_ | refine V.region tm no_specs rfl (by conv=>lhs; simp [c1,c2,c3,c4,maxLen,e1,hi,hc1,hic,hcap,hcap',hw,hw2,n3,hwi,n9,n10,hcap2,hw3,ovlB48,ovlT48,n11,n12,n6,n7,n13,n14,n15]) fun _=>?_ | refine YL tm no_specs rfl (by conv=>lhs; simp [c1,c2,c3,c4,maxLen,e1,hi,hc1,hic,hcap,hcap',hw,hw2,n3,hwi,n9,n10,hcap2,hw3,ovlB48,ovlT48,n11,n12,n6,n7,n13,n14,n15]) fun _=>?_)
         refine V.uncap (t:=6) rfl ?_
         repeat (first | refine YS ?_ | refine V.region tm no_specs rfl (by conv=>lhs; simp) fun _=>?_ | refine YL tm no_specs rfl (by conv=>lhs; simp) fun _=>?_)
         refine retM2_ok false [0,1] [1,0] ?_
         simp [retM2,movedOK,oldOK,frqT,frqV,frqVs,frqL,frq1,expG,expB3,renB,AV.ren,renL,List.range,List.range.loop,resVs,resV,pack,List.zipWith,List.idxOf?,List.findIdx?,List.findIdx?.go,rowB]
         simpa using ins_place48 (l:=l) (i:=i) (X:=[]) hi
   · cases hS
 · cases hS
theorem delete49_ok : FnC Try.prog 49 (deleteC 71 41) := by
 refine FnC.ofV 49 (fn:=Try.f49) Try.func49 rfl (by kernel_rfl) fun args B r B' hS=>?_
 unfold deleteC at hS
 split at hS
 · rename_i len i j b
   split at hS
   · rename_i hc
     obtain ⟨hb,rfl,h1,h2,h3,h4⟩:=hc
     simp only [Option.some.injEq,Prod.mk.injEq] at hS
     obtain ⟨rfl,rfl⟩:=hS
     rw [okB_eq hb]
     generalize b.rows = rows at h1 h2 h3 h4 ⊢
     obtain ⟨i,rfl⟩ : ∃ n : Nat,i = n:=⟨i.toNat,by omega⟩
     obtain ⟨j,rfl⟩ : ∃ n : Nat,j = n:=⟨j.toNat,by omega⟩
     have h3' : i < j:=by omega
     have h4' : j ≤ rows.length:=by omega
     simp only [Int.toNat_natCast]
     refine ⟨by simp, ?_⟩
     change V _ (RetM _ _ 1 _ _) _ _ ⟨33,[(0, .sl 0 0 0 rows.length),(1, .int .i64 (i : Nat)),(2, .int .i64 (j : Nat))],[(0, { gen:=0,kind:=2,elem:=71,size:=41,inl:=true,rows })]⟩
     have e1 : ((i : Int) == (j : Int)) = false:=by simpa using fun h=>by omega
     have hij : i ≤ j:=by omega
     have hl : rows.length ≤ 9223372036854775807:=by omega
     repeat (first | refine NV.seq ?_ | refine NV.blk ?_ | refine V.seq rfl ?_ | refine V.block rfl ?_ | refine V.skip rfl ?_ | refine V.ret rfl ?_ | refine NV.nil ?_ | refine NV.loop ?_ | refine V.exit rfl ?_ | refine XV.seq ?_ | refine XV.loop ?_ | refine XV.hit ?_ | refine XV.pass (by decide) ?_)
     refine V.region tm no_specs rfl (by conv=>lhs; simp) fun _=>?_
     repeat (first | refine NV.seq ?_ | refine NV.blk ?_ | refine V.seq rfl ?_ | refine V.block rfl ?_ | refine V.skip rfl ?_ | refine V.ret rfl ?_ | refine NV.nil ?_ | refine NV.loop ?_ | refine V.exit rfl ?_ | refine XV.seq ?_ | refine XV.loop ?_ | refine XV.hit ?_ | refine XV.pass (by decide) ?_)
     refine V.region tm no_specs rfl (by conv=>lhs; simp [h1,h2,h3',h4',hij,hl,maxLen]) fun _=>?_
     repeat (first | refine NV.seq ?_ | refine NV.blk ?_ | refine V.seq rfl ?_ | refine V.block rfl ?_ | refine V.skip rfl ?_ | refine V.ret rfl ?_ | refine NV.nil ?_ | refine NV.loop ?_ | refine V.exit rfl ?_ | refine XV.seq ?_ | refine XV.loop ?_ | refine XV.hit ?_ | refine XV.pass (by decide) ?_)
     refine V.caps (t:=0) rfl rfl rfl fun cap hc1 hc2=>?_
     have n1 : j ≤ cap:=by omega
     have n2 : i ≤ rows.length:=by omega
     have n3 : i ≤ cap:=by omega
     have n4 : j + (rows.length - j) ≤ rows.length:=by omega
     have n5 : i + (rows.length - j) ≤ cap:=by omega
     have n6 : i + (rows.length - j) ≤ rows.length:=by omega
     obtain ⟨m,hm⟩ : ∃ m : Nat,i + (rows.length - j) = m:=⟨_,rfl⟩
     rw [hm] at n5 n6 ⊢
     have n7 : m ≤ 9223372036854775807:=by omega
     have n8 : m ≤ i + (rows.length - j + (rows.length - m)):=by omega
     repeat (first | refine YU ?_ | refine V.region tm no_specs rfl (by conv=>lhs; simp [e1,h3',h4',hij,hl,hc1,hc2,n1,n2,n3,n4,n5,n6,maxLen,hm,n7,n8]) fun _=>?_ | refine YL tm no_specs rfl (by conv=>lhs; simp [e1,h3',h4',hij,hl,hc1,hc2,n1,n2,n3,n4,n5,n6,maxLen,hm,n7,n8]) fun _=>?_)
     refine V.uncap (t:=6) rfl ?_
     refine V.shrink (t:=6) rfl rfl rfl rfl ?_
     repeat (first | refine YS ?_ | refine V.region tm no_specs rfl (by conv=>lhs; simp) fun _=>?_ | refine YL tm no_specs rfl (by conv=>lhs; simp) fun _=>?_)
     refine retM2_ok false [0] [1] ?_
     simp [retM2,movedOK,oldOK,frqT,frqV,frqVs,frqL,frq1,expG,expB3,renB,AV.ren,renL,List.range,List.range.loop,resVs,resV,pack,List.zipWith,List.idxOf?,List.findIdx?,List.findIdx?.go,rowB,delete_rows h3' h4' hm]
   · cases hS
 · cases hS
end
section
attribute [local simp] instA
noncomputable def nan64R (x : Int) : AV := .bool false
noncomputable def nan64S : SpecFn := mkS (fun p : Int => [.int .u64 p]) fun p => (nan64R p,[])
theorem nan64_eq (x : Int) : nan64S [.int .u64 x] [] = some (nan64R (x),[]) :=
 mkS_eq (enc:=fun p : Int=>[.int .u64 p]) (res:=fun p=>(nan64R p,[])) (fun x y h=>by
   obtain ⟨h0,h⟩:=List.cons.inj h
   have e0:=AVi h0
   subst e0
   rfl) (x)
theorem nan64_ok : FnC Try.prog 71 nan64S := by
 refine FnC.walk 71 (fn:=Try.f71) Try.func71 rfl (by kernel_rfl) fun p=>?_
 revert p; intro x
 change W _ (Ret _ _ (nan64R (x)) []) _ _ ⟨6,[(0, .int .u64 x)],[]⟩
 repeat' (first | intro (hb : _ = _) | refine ZV ?_ | refine ZB tm no_specs ?_ | refine ZH ?_ ?_ | refine ZJ (by conv=>lhs; simp) ?_ | refine ZA ?_ ?_)
 all_goals (first | refine Yd ?_ | refine Ye ?_)
 all_goals (first | rfl | (simp [nan64R]; done) | (simp_all [nan64R]; done) | (simp_all [nan64R]; omega))
def cmpI (a b : Int) : Int := if a < b then -1 else if b < a then 1 else 0
@[simp] theorem cmpI_eq0 (a b : Int) : (cmpI a b == 0) = decide (a = b) := by
 unfold cmpI
 split
 · rw [decide_eq_false (by omega)]; rfl
 · split
   · rw [decide_eq_false (by omega)]; rfl
   · rw [decide_eq_true (by omega)]; rfl
@[simp] theorem cmpI_lt0 (a b : Int) : (cmpI a b < 0) ↔ a < b := by
 unfold cmpI
 split
 · simp [*]
 · split <;> simp <;> omega
noncomputable def cmp64R (x : Int) (y : Int) : AV := .int .i64 (cmpI x y)
noncomputable def cmp64S : SpecFn := mkS (fun p : Int × Int => [.int .u64 p.1, .int .u64 p.2]) fun p => (cmp64R p.1 p.2,[])
theorem cmp64_eq (x : Int) (y : Int) : cmp64S [.int .u64 x, .int .u64 y] [] = some (cmp64R (x) (y),[]) :=
 mkS_eq (enc:=fun p : Int × Int=>[.int .u64 p.1, .int .u64 p.2]) (res:=fun p=>(cmp64R p.1 p.2,[])) (fun x y h=>by
   obtain ⟨a0,a1⟩:=x
   obtain ⟨b0,b1⟩:=y
   obtain ⟨h0,h⟩:=List.cons.inj h
   obtain ⟨h1,h⟩:=List.cons.inj h
   have e0:=AVi h0
   subst e0
   have e1:=AVi h1
   subst e1
   rfl) (x,y)
noncomputable def cmp64_ok_specs : NL Spec := [(71,⟨1,nan64S⟩)]
theorem cmp64_ok_specs_ok : ∀ p ∈ cmp64_ok_specs,FnC Try.prog p.1 p.2.fn := by
 simp only [cmp64_ok_specs,List.mem_cons,List.not_mem_nil,or_false]
 rintro p rfl
 · exact nan64_ok
attribute [local simp] cmp64_ok_specs nan64_eq
theorem cmp64_ok : FnC Try.prog 47 cmp64S := by
 refine FnC.walk 47 (fn:=Try.f47) Try.func47 rfl (by kernel_rfl) fun p=>?_
 obtain ⟨x,y⟩:=p
 change W _ (Ret _ _ (cmp64R (x) (y)) []) _ _ ⟨20,[(0, .int .u64 x),(1, .int .u64 y)],[]⟩
 repeat' (first | intro (hb : _ = _) | refine ZV ?_ | refine ZB tm cmp64_ok_specs_ok ?_ | refine ZH ?_ ?_ | refine ZJ (by conv=>lhs; simp [nan64R]) ?_ | refine ZA ?_ ?_)
 all_goals (first | refine Yd ?_ | refine Ye ?_)
 all_goals (first | rfl | (simp [cmp64R,cmpI]; done) | (simp_all [cmp64R,cmpI]; done) | (simp_all [cmp64R,cmpI]; omega))
attribute [-simp] mkv
attribute [local simp] mkv_hd hdA_cons hdA_ob hdA_ob'
noncomputable def wt1R (t : Tok) (y : Int) : AV := .int .i64 (cmpI t.id y)
noncomputable def wt1S : SpecFn := mkS (fun p : Tok × Int => [.agg p.1.c, .int .u64 p.2]) fun p => (wt1R p.1 p.2,[])
theorem wt1_eq (t1 : Int) (t2 : Int) (to : Ob) (t3 : Int) (t4 : Bool) (t5 : Bool) (y : Int) : wt1S [.agg (.int .u64 t1 :: .int .i64 t2 :: (to.cells ++ [.int .i64 t3, .bool t4, .bool t5])), .int .u64 y] [] = some (wt1R ((⟨t1,t2,to,t3,t4,t5⟩ : Tok)) (y),[]) :=
 mkS_eq (enc:=fun p : Tok × Int=>[.agg p.1.c, .int .u64 p.2]) (res:=fun p=>(wt1R p.1 p.2,[])) (fun x y h=>by
   obtain ⟨a0,a1⟩:=x
   obtain ⟨b0,b1⟩:=y
   obtain ⟨h0,h⟩:=List.cons.inj h
   obtain ⟨h1,h⟩:=List.cons.inj h
   have e0:=Tok.c_inj (AVg h0)
   subst e0
   have e1:=AVi h1
   subst e1
   rfl) ((⟨t1,t2,to,t3,t4,t5⟩ : Tok),y)
noncomputable def wt1_ok_specs : NL Spec := [(47,⟨1,cmp64S⟩)]
theorem wt1_ok_specs_ok : ∀ p ∈ wt1_ok_specs,FnC Try.prog p.1 p.2.fn := by
 simp only [wt1_ok_specs,List.mem_cons,List.not_mem_nil,or_false]
 rintro p rfl
 · exact cmp64_ok
attribute [local simp] wt1_ok_specs cmp64_eq
theorem wt1_ok : FnC Try.prog 46 wt1S := by
 refine FnC.walk 46 (fn:=Try.f46) Try.func46 rfl (by kernel_rfl) fun p=>?_
 obtain ⟨⟨t1,t2,to,t3,t4,t5⟩,y⟩:=p
 change W _ (Ret _ _ (wt1R ((⟨t1,t2,to,t3,t4,t5⟩ : Tok)) (y)) []) _ _ ⟨9,[(0, .agg (.int .u64 t1 :: .int .i64 t2 :: (to.cells ++ [.int .i64 t3, .bool t4, .bool t5]))),(1, .int .u64 y)],[]⟩
 repeat' (first | intro (hb : _ = _) | refine ZV ?_ | refine ZB tm wt1_ok_specs_ok ?_ | refine ZH ?_ ?_ | refine ZJ (by conv=>lhs; simp [cmp64R]) ?_ | refine ZA ?_ ?_)
 all_goals (first | refine Yd ?_ | refine Ye ?_)
 all_goals (first | rfl | (simp [wt1R]; done) | (simp_all [wt1R]; done) | (simp_all [wt1R]; omega))
theorem half {lo hi : Nat} (h : lo + hi ≤ 9223372036854775807) : IntKind.i64.wrap ((IntKind.u64.wrap (IntKind.i64.wrap ((lo : Int) + (hi : Int)))).fdiv (2 ^ min 1 IntKind.u64.bits)) = (((lo + hi) / 2 : Nat) : Int) := by
 have h1 : IntKind.i64.wrap ((lo : Int) + (hi : Int)) = (lo : Int) + (hi : Int):=w64 (by omega) (by omega)
 have h2 : IntKind.u64.wrap ((lo : Int) + (hi : Int)) = (lo : Int) + (hi : Int):=by
   simp only [IntKind.wrap,IntKind.bits,IntKind.signed]
   simp
   omega
 have h3 : ((lo : Int) + (hi : Int)).fdiv (2 ^ min 1 IntKind.u64.bits) = (((lo + hi) / 2 : Nat) : Int):=by
   rw [Int.fdiv_eq_ediv_of_nonneg _ (by decide)]
   show ((lo : Int) + (hi : Int)) / 2 = _
   omega
 rw [h1,h2,h3]
 exact w64 (by omega) (by omega)
def bsF (c : Nat → Bool) (lo hi : Nat) : Nat :=
 if h : lo < hi then (if c ((lo + hi) / 2) then bsF c ((lo + hi) / 2 + 1) hi else bsF c lo ((lo + hi) / 2)) else lo
termination_by hi - lo
decreasing_by all_goals omega
theorem bsF_lt {c : Nat → Bool} {lo hi : Nat} (h : lo < hi) : bsF c lo hi = if c ((lo + hi) / 2) then bsF c ((lo + hi) / 2 + 1) hi else bsF c lo ((lo + hi) / 2) := by
 rw [bsF,dif_pos h]
theorem bsF_ge {c : Nat → Bool} {lo hi : Nat} (h : ¬ lo < hi) : bsF c lo hi = lo := by
 rw [bsF,dif_neg h]
theorem AVtl {n : Nat} {a b : {l : List Tok // l.length ≤ 9001}} (h : AV.list n (a.1.map Tok.c) = AV.list n (b.1.map Tok.c)) : a = b := Subtype.ext (rows_inj (AVl h))
def bsT (l : List Tok) (id : Int) : Nat := bsF (fun k => match l[k]? with | some t => decide (t.id < id) | none => false) 0 l.length
def hasAt (l : List Tok) (k : Nat) (id : Int) : Bool := match l[k]? with | some t => decide (t.id = id) | none => false
noncomputable def bstR (l : {l : List Tok // l.length ≤ 9001}) (id : Int) : AV := .tup [.int .i64 (bsT l.1 id : Nat), .bool (hasAt l.1 (bsT l.1 id) id)]
noncomputable def bstS : SpecFn := mkS (fun p : {l : List Tok // l.length ≤ 9001} × Int => [.list 41 (p.1.1.map Tok.c), .int .u64 p.2, .fn (.func 46) [] []]) fun p => (bstR p.1 p.2,[])
theorem bst_eq (l : List Tok) (lh : l.length ≤ 9001) (id : Int) : bstS [.list 41 (l.map Tok.c), .int .u64 id, .fn (.func 46) [] []] [] = some (bstR ((⟨l,lh⟩ : {l : List Tok // l.length ≤ 9001})) (id),[]) :=
 mkS_eq (enc:=fun p : {l : List Tok // l.length ≤ 9001} × Int=>[.list 41 (p.1.1.map Tok.c), .int .u64 p.2, .fn (.func 46) [] []]) (res:=fun p=>(bstR p.1 p.2,[])) (fun x y h=>by
   obtain ⟨a0,a1⟩:=x
   obtain ⟨b0,b1⟩:=y
   obtain ⟨h0,h⟩:=List.cons.inj h
   obtain ⟨h1,h⟩:=List.cons.inj h
   obtain ⟨h2,h⟩:=List.cons.inj h
   have e0:=AVtl h0
   subst e0
   have e1:=AVi h1
   subst e1
   rfl) ((⟨l,lh⟩ : {l : List Tok // l.length ≤ 9001}),id)
noncomputable def bst_ok_specs : NL Spec := [(46,⟨1,wt1S⟩)]
theorem bst_ok_specs_ok : ∀ p ∈ bst_ok_specs,FnC Try.prog p.1 p.2.fn := by
 simp only [bst_ok_specs,List.mem_cons,List.not_mem_nil,or_false]
 rintro p rfl
 · exact wt1_ok
attribute [local simp] bst_ok_specs wt1_eq
theorem bst_ok : FnC Try.prog 45 bstS := by
 refine FnC.walk 45 (fn:=Try.f45) Try.func45 rfl (by kernel_rfl) fun p=>?_
 obtain ⟨⟨l,lh⟩,id⟩:=p
 change W _ (Ret _ _ (bstR ((⟨l,lh⟩ : {l : List Tok // l.length ≤ 9001})) (id)) []) _ _ ⟨49,[(0, .list 41 (l.map Tok.c)),(1, .int .u64 id),(2, .fn (.func 46) [] [])],[]⟩
 repeat' (first | intro (hb : _ = _) | refine ZV ?_ | refine ZB tm bst_ok_specs_ok ?_ | refine ZH ?_ ?_ | refine ZJ (by conv=>lhs; simp [lh]) ?_ | refine ZA ?_ ?_)
 have cap : l.length ≤ 9223372036854775807:=by omega
 obtain ⟨B,hE⟩ : ∃ B,bsT l id = B:=⟨_,rfl⟩
 have hB:=hE
 unfold bsT at hB
 generalize hC : (fun (k : Nat)=>match l[k]? with | some (t : Tok)=>decide (t.id < id) | none=>false) = C at hB
 refine W.loop rfl (ι:={ q : Nat × Nat × NL ABlk // q.1 ≤ q.2.1 ∧ q.2.1 ≤ l.length ∧ bsF C q.1 q.2.1 = B })
   (fun q=>⟨49,[(0, .list 41 (l.map Tok.c)),(1, .int .u64 id),(2, .fn (.func 46) [] []),(8, .int .i64 l.length),(9, .int .i64 (q.1.1 : Nat)),(10, .int .i64 (q.1.2.1 : Nat))],q.1.2.2⟩) (fun q=>q.1.2.1 - q.1.1)
   ⟨(0,l.length,[]),by simp,by simp,hB⟩ (AS.le_of rfl ⟨rfl,rfl,rfl,rfl,rfl,rfl,trivial⟩ (fun _=>rfl)) ?_
 rintro ⟨⟨lo,hi,h⟩,h1,h2,h3⟩
 dsimp only at h1 h2 h3 ⊢
 by_cases hlt : lo < hi
 · rw [bsF_lt hlt] at h3
   have q1 : (lo : Int) < hi:=by omega
   obtain ⟨m,hm⟩ : ∃ m,(lo + hi) / 2 = m:=⟨_,rfl⟩
   rw [hm] at h3
   obtain ⟨t,ht⟩:=get_lt (l:=l) (i:=m) (by omega)
   have hg : (l.map Tok.c)[m]? = some t.c:=by rw [List.getElem?_map,ht]; rfl
   have q2 : ¬ l.length ≤ m:=by omega
   have hw : IntKind.i64.wrap ((m : Int) + 1) = ((m + 1 : Nat) : Int):=w64 (by omega) (by omega)
   have hcm : C m = decide (t.id < id):=by rw [← hC]; simp only [ht]
   rw [hcm] at h3
   clear hlt
   have hh:=half (lo:=lo) (hi:=hi) (by omega)
   rw [hm] at hh
   obtain ⟨a1,a2,o,a3,a4,a5⟩:=t
   simp only [Tok.c] at hg
   repeat' (first | intro (hb : _ = _) | refine ZV ?_ | refine ZB tm bst_ok_specs_ok ?_ | refine ZH ?_ ?_ | refine ZJ (by conv=>lhs; simp [q1,hh,q2,hg,wt1R,hw]) ?_ | refine ZA ?_ ?_)
   · have hb' : a1 < id:=by simpa using hb
     rw [if_pos (by simpa using hb')] at h3
     exact ⟨⟨(m + 1,hi,_),by dsimp only; omega,h2,h3⟩,by dsimp only; omega,AS.le_of rfl ⟨rfl,rfl,rfl,rfl,rfl,rfl,trivial⟩ (fun _=>rfl)⟩
   · have hb' : ¬ a1 < id:=by simpa using hb
     rw [if_neg (by simpa using hb')] at h3
     exact ⟨⟨(lo,m,_),by dsimp only; omega,by dsimp only; omega,h3⟩,by dsimp only; omega,AS.le_of rfl ⟨rfl,rfl,rfl,rfl,rfl,rfl,trivial⟩ (fun _=>rfl)⟩
 · rw [bsF_ge hlt] at h3
   subst h3
   have q1 : ¬ (lo : Int) < hi:=by omega
   have e1 : lo = hi:=by omega
   subst e1
   by_cases hz : lo < l.length
   · obtain ⟨t,ht⟩:=get_lt (l:=l) (i:=lo) (by omega)
     have hg : (l.map Tok.c)[lo]? = some t.c:=by rw [List.getElem?_map,ht]; rfl
     have q2 : ¬ l.length ≤ lo:=by omega
     have q3 : (lo : Int) < l.length:=by omega
     obtain ⟨a1,a2,o,a3,a4,a5⟩:=t
     simp only [Tok.c] at hg
     clear hlt hz
     repeat' (first | intro (hb : _ = _) | refine ZV ?_ | refine ZB tm bst_ok_specs_ok ?_ | refine ZH ?_ ?_ | refine ZJ (by conv=>lhs; simp [q1,q2,q3,hg,wt1R]) ?_ | refine ZA ?_ ?_)
     all_goals (first | refine Yd ?_ | refine Ye ?_)
     all_goals (first | rfl | (simp [bstR,hE,hasAt,ht]; done) | (simp_all [bstR,hE,hasAt,ht]; done) | (simp_all [bstR,hE,hasAt,ht]; omega))
   · have q3 : ¬ (lo : Int) < l.length:=by omega
     have q4 : l[lo]? = none:=by simp; omega
     clear hlt hz
     repeat' (first | intro (hb : _ = _) | refine ZV ?_ | refine ZB tm bst_ok_specs_ok ?_ | refine ZH ?_ ?_ | refine ZJ (by conv=>lhs; simp [q1,q3]) ?_ | refine ZA ?_ ?_)
     all_goals (first | refine Yd ?_ | refine Ye ?_)
     all_goals (first | rfl | (simp [bstR,hE,hasAt,q4]; done) | (simp_all [bstR,hE,hasAt,q4]; done) | (simp_all [bstR,hE,hasAt,q4]; omega))
end
section
attribute [local simp] instA
attribute [-simp] mkv
attribute [local simp] mkv_hd hdA_cons hdA_ob hdA_ob'
def tkB0 (l : List Tok) : ABlk := { gen := 0,kind := 2,elem := 71,size := 41,inl := true,rows := l.map Tok.c }
noncomputable def cp2S : SpecFn := mkS2 (fun d : Tks => ([d.v],[])) fun d => (.agg [.int .i64 d.node, .sl 0 0 0 d.toks.length],[tkB0 d.toks])
theorem cp2_eq (n : Int) (l : List Tok) (h : l.length ≤ 9000) : cp2S [.agg [.int .i64 n, .list 41 (l.map Tok.c)]] [] = some (.agg [.int .i64 n, .sl 0 0 0 l.length],[tkB0 l]) :=
 mkS2_eq (enc:=fun d : Tks=>([d.v],[])) (res:=fun d=>(.agg [.int .i64 d.node, .sl 0 0 0 d.toks.length],[tkB0 d.toks])) (fun x y h=>by
   simp only [Prod.mk.injEq,List.cons.injEq,and_true] at h
   cases Tks.v_inj h
   rfl) ⟨n,l,h⟩
attribute [local simp] cp_specs
theorem cp2_ok : FnC Try.prog 28 cp2S := by
 refine FnC.walkB 28 (fn:=Try.f28) Try.func28 rfl (by kernel_rfl) (fun x b hb=>by simp at hb) fun d=>?_
 obtain ⟨nd,l,hl⟩:=d
 change W _ (RetB _ _ 0 (.agg [.int .i64 nd, .sl 0 0 0 l.length]) [tkB0 l]) _ _ ⟨29,[(0, .agg [.int .i64 nd, .list 41 (l.map Tok.c)])],[]⟩
 have cap : l.length ≤ 9223372036854775807:=by have:=capT (n:=l.length) (by omega); exact this
 have cc : cloneC 71 41 496 [.list 41 (l.map Tok.c)] [] = some (.sl 0 0 0 l.length,[{ gen:=0,kind:=2,elem:=71,size:=41,inl:=true,rows:=l.map Tok.c }]):=by
   have e1 : l.length * 496 ≤ 140737488355328:=by omega
   have e3 : l.length ≤ maxLen:=by simp only [maxLen]; omega
   simp [cloneC,e1,cap,e3,rowB]
 repeat (first | refine ZS ?_ | refine ZK tm cp_specs_ok rfl (by conv=>lhs; simp [cap,cc]) fun _=>?_ | refine ZL tm cp_specs_ok rfl (by conv=>lhs; simp [cap,cc]) fun _=>?_)
 refine W.loop rfl (ι:={ q : Nat × NL ABlk // q.1 ≤ l.length ∧ lk q.2 32 = some { gen:=1,kind:=2,elem:=30,size:=2,inl:=false,rows:=[[.int .i64 nd, .sl 128 1 0 l.length]] } ∧ lk q.2 48 = some { gen:=1,kind:=2,elem:=30,size:=2,inl:=false,rows:=[[.int .i64 0, .nils]] } ∧ lk q.2 128 = some (tkB 1 l) })
   (fun q=>⟨29,[(1, .ptr 32 1 0 0),(2, .ptr 48 1 0 0),(11, .int .i64 l.length),(12, .int .i64 (q.1.1 : Nat))],q.1.2⟩) (fun q=>l.length - q.1.1)
   ⟨(0,_),by simp,rfl,rfl,rfl⟩ (AS.le_of rfl ⟨rfl,rfl,rfl,rfl,trivial⟩ (fun _=>rfl)) ?_
 rintro ⟨⟨k,h⟩,hk,h1,h2,h3⟩
 dsimp only at hk h1 h2 h3 ⊢
 by_cases hk2 : k = l.length
 · subst hk2
   repeat (first | refine ZS ?_ | refine ZK tm cp_specs_ok rfl (by conv=>lhs; simp [h1,h2]) fun _=>?_ | refine ZL tm cp_specs_ok rfl (by conv=>lhs; simp [h1,h2]) fun _=>?_)
   exact RetB.raw [128] rfl (by conv=>lhs; simp) (by decide) (by simp) (by simp [h3,tkB,tkB0]) (by simp [h3,tkB,List.idxOf?,List.findIdx?,List.findIdx?.go])
 · have hlt : k < l.length:=by omega
   obtain ⟨t,hr⟩:=get_lt hlt
   have hm : (l.map Tok.c)[k]? = some t.c:=by rw [List.getElem?_map,hr]; rfl
   have q1 : (k : Int) < l.length:=by omega
   have q2 : ¬ l.length ≤ k:=by omega
   have hw : IntKind.i64.wrap ((k : Int) + 1) = ((k + 1 : Nat) : Int):=w64 (by omega) (by omega)
   have co:=cobS_eq t.obj
   obtain ⟨a1,a2,o,a3,a4,a5⟩:=t
   have hs:=set_self hm
   simp only [Tok.c] at hm hs co
   repeat (first | refine ZS ?_ | refine ZK tm cp_specs_ok rfl (by conv=>lhs; simp [q1,q2,hm,h1,h2,h3,tkB,co,hw,hs]) fun _=>?_ | refine ZL tm cp_specs_ok rfl (by conv=>lhs; simp [q1,q2,hm,h1,h2,h3,tkB,co,hw,hs]) fun _=>?_)
   exact ⟨⟨(k + 1,_),hlt,by simp [lk_st,h1],by simp [lk_st,h2],by simp [lk_st,tkB]⟩,by dsimp only; omega,AS.le_of rfl ⟨rfl,rfl,rfl,rfl,trivial⟩ (fun _=>rfl)⟩
end
section
attribute [local simp] instA
attribute [-simp] mkv
attribute [local simp] mkv_hd hdA_cons hdA_ob hdA_ob'
def WF := { x : Tks × Int × Tok // x.1.toks[bsT x.1.toks x.2.1]? = some x.2.2 ∧ x.2.2.id = x.2.1 }
theorem WF.ext {x y : WF} (h1 : x.1.1 = y.1.1) (h2 : x.1.2.1 = y.1.2.1) : x = y := by
 obtain ⟨⟨d,i,t⟩,h,hi⟩:=x
 obtain ⟨⟨d',i',t'⟩,h',hi'⟩:=y
 dsimp only at h1 h2 h h'
 subst h1 h2
 rw [h] at h'
 cases h'
 rfl
theorem pn1_eq (a1 a2 : Int) (o : Ob) (a3 : Int) (a4 a5 : Bool) : pn1S [.agg (.int .u64 a1 :: .int .i64 a2 :: (o.cells ++ [.int .i64 a3, .bool a4, .bool a5]))] [] = some (.agg (.int .u64 a1 :: .int .i64 a2 :: (o.cells ++ [.int .i64 a3, .bool true, .bool a5])),[]) :=
 mkS_eq (enc:=fun d : Tok=>[.agg d.c]) (res:=fun d=>(.agg ({ d with pin:=true } : Tok).c,[])) (fun x y h=>by
   simp only [List.cons.injEq,AV.agg.injEq,and_true] at h
   cases Tok.c_inj h
   rfl) ⟨a1,a2,o,a3,a4,a5⟩
def wiF (i : Nat) (t' : Tok) (l : List Tok) : List Tok := if t'.gone = true then l.take i ++ l.drop (i + 1) else l.set i t'
theorem del_eq (elem size n i : Nat) (rows : List (List AV)) (hn : n = rows.length) (h1 : n ≤ 1000000) (hi : ¬ n ≤ i) : deleteC elem size [.sl 0 0 0 n, .int .i64 (i : Nat), .int .i64 ((i : Int) + 1)] [{ gen := 0,kind := 2,elem := elem,size := size,inl := true,rows }] = some (.sl 0 1 0 (i + (n - (i + 1))),[{ gen := 1,kind := 2,elem := elem,size := size,inl := true,rows := rows.take i ++ rows.drop (i + 1) }]) := by
 have e : ((i : Int) + 1).toNat = i + 1:=by omega
 unfold deleteC
 simp only [okB,beq_self_eq_true,Bool.and_self,true_and,Int.toNat_natCast,e,rowB]
 rw [if_pos ⟨hn,h1,by omega,by omega,by omega⟩]
theorem dropset {α : Type} (l : List α) (i : Nat) (x : α) : (l.set i x).take i ++ (l.set i x).drop (i + 1) = l.take i ++ l.drop (i + 1) := by
 congr 1
 · rw [List.take_set_of_le (Nat.le_refl i)]
 · rw [List.drop_set_of_lt (by omega)]
noncomputable def wpnS : SpecFn := mkS (fun x : WF => [x.1.1.v, .int .u64 x.1.2.1, .fn (.func 31) [] []]) fun x => (.agg [.int .i64 x.1.1.node, .list 41 ((wiF (bsT x.1.1.toks x.1.2.1) { x.1.2.2 with pin := true } x.1.1.toks).map Tok.c)],[])
noncomputable def wpn_specs : NL Spec := [(28,⟨1,cp2S⟩),(45,⟨0,bstS⟩),(49,⟨3,deleteC 71 41⟩),(31,⟨1,pn1S⟩)]
theorem wpn_specs_ok : ∀ p ∈ wpn_specs,FnC Try.prog p.1 p.2.fn := by
 simp only [wpn_specs,List.mem_cons,List.not_mem_nil,or_false]
 rintro p (rfl | rfl | rfl | rfl)
 · exact cp2_ok
 · exact bst_ok
 · exact delete49_ok
 · exact pn1_ok
attribute [local simp] wpn_specs cp2_eq bst_eq pn1_eq
theorem wpn_ok : FnC Try.prog 22 wpnS := by
 refine FnC.walkN 22 (fn:=Try.f22) [30] Try.func22 rfl (by kernel_rfl) (fun d=>?_) (fun d=>⟨_,tks_nrmR _ _⟩)
 obtain ⟨⟨⟨nd,l,hl⟩,id,t⟩,ht,hi⟩:=d
 dsimp only at ht hi
 obtain ⟨i,hE⟩ : ∃ i,bsT l id = i:=⟨_,rfl⟩
 rw [hE] at ht
 have hA : hasAt l i id = true:=by simp [hasAt,ht,hi]
 have hil : i < l.length:=(List.getElem?_eq_some_iff.1 ht).1
 have hm : (l.map Tok.c)[i]? = some t.c:=by rw [List.getElem?_map,ht]; rfl
 change W _ (RetNf _ _ _ (.agg [.int .i64 nd, .list 41 ((wiF (bsT l id) { t with pin:=true } l).map Tok.c)]) []) _ _ ⟨62,[(0, .agg [.int .i64 nd, .list 41 (l.map Tok.c)]),(1, .int .u64 id),(2, .fn (.func 31) [] [])],[]⟩
 obtain ⟨a1,a2,o,a3,a4,a5⟩:=t
 have hl2 : l.length ≤ 9001:=by omega
 simp only [Tok.c] at hm hi
 have q2 : ¬ l.length ≤ i:=by omega
 have q3 : (i : Int) < l.length:=by omega
 have q4 : l.length ≤ 1000000:=by omega
 have hw : IntKind.i64.wrap ((i : Int) + 1) = ((i + 1 : Nat) : Int):=w64 (by omega) (by omega)
 have n1 : i ≤ min i l.length:=by omega
 have n2 : ∀ L : List (List AV),L.length = l.length → List.take (i + (l.length - (i + 1))) (List.take i L ++ List.drop (i + 1) L) = List.take i L ++ List.drop (i + 1) L:=fun L h=>List.take_of_length_le (by simp [h]; omega)
 have n3 : ∀ X,List.take l.length ((List.map Tok.c l).set i X) = (List.map Tok.c l).set i X:=fun X=>List.take_of_length_le (by simp)
 have hs : ∀ X,((List.map Tok.c l).set i X)[i]? = some X:=fun X=>List.getElem?_set_self (by simpa using hil)
 repeat' (first | intro (hb : _ = _) | refine ZV ?_ | refine ZB tm wpn_specs_ok ?_ | refine ZH ?_ ?_ | refine ZJ (by conv=>lhs; simp [hs,hl,hl2,tkB0,bstR,hE,hA,hm,take_acc,hi,q2,q3,hw,del_eq,q4]) ?_ | refine ZA ?_ ?_)
 all_goals (refine RetNf.dataE rfl (by conv=>lhs; simp) (by conv=>lhs; simp [n1,n2,n3,dropset]) (by first | rfl | simp [inlT,inlV]) ?_)
 all_goals (refine (congrArg (fun r=>nrmR Try.prog [30] (AV.agg [AV.int .i64 nd,AV.list 41 r])) ?_).trans (tks_nrmR nd _))
 all_goals (subst hi; simp_all [wiF,Tok.gone,List.map_append,List.map_take,List.map_drop,List.map_set])
end
section
attribute [local simp] instA
attribute [-simp] mkv
attribute [local simp] mkv_hd hdA_cons hdA_ob hdA_ob'
def gmB (fr to id mode : Int) (oc : List AV) : ABlk := { gen := 0,kind := 2,elem := 75,size := 45,inl := false,rows := [.int .i64 fr :: .int .i64 to :: .int .i64 4 :: .int .u64 id :: .int .i64 mode :: (oc ++ [.int .u64 0, .int .i64 0, .int .u64 0, .int .i64 0])] }
def encG (d : Tok × Int × Int × Int) : List AV × List ABlk := ([.agg d.1.c, .ptr 0 0 0 0, .ptr 1 0 0 0],[gmB d.2.1 d.2.2.1 d.2.2.2 0 zO,u8B d.2.2.2])
def gOb (t : Tok) : List AV := if t.mode = 2 then t.obj.cells else zO
noncomputable def gv1S : SpecFn := mkS2 encG fun d => (.agg (.int .u64 d.2.2.2 :: .int .i64 0 :: (zO ++ [.int .i64 d.1.want, .bool false, .bool false])),[gmB d.2.1 d.2.2.1 d.2.2.2 d.1.mode (gOb d.1),u8B d.2.2.2])
theorem gv1_ok : FnC Try.prog 69 gv1S := by
 refine FnC.walkB 69 (fn:=Try.f69) Try.func69 rfl (by kernel_rfl) (fun x b hb=>by simp [encG] at hb; rcases hb with rfl | rfl <;> rfl) fun x=>?_
 obtain ⟨⟨a1,a2,o,a3,a4,a5⟩,fr,to,id⟩:=x
 change W _ (RetB _ _ 2 (.agg (.int .u64 id :: .int .i64 0 :: (zO ++ [.int .i64 a3, .bool false, .bool false]))) [gmB fr to id a2 (if a2 = 2 then o.cells else zO),u8B id]) _ _ ⟨18,[(0, .agg (.int .u64 a1 :: .int .i64 a2 :: (o.cells ++ [.int .i64 a3, .bool a4, .bool a5]))),(1, .ptr 0 0 0 0),(2, .ptr 1 0 0 0)],[(0,gmB fr to id 0 zO),(1,u8B id)]⟩
 by_cases h2 : a2 = 2
 · have e2 : (a2 == 2) = true:=by simp [h2]
   rw [if_pos h2]
   simp only [gmB,u8B,zO,List.cons_append,List.nil_append]
   repeat' (first | intro (hb : _ = _) | refine ZV ?_ | refine ZB tm no_specs ?_ | refine ZH ?_ ?_ | refine ZJ (by conv=>lhs; simp [e2]) ?_ | refine ZA ?_ ?_)
   first | exact retE2_ok false (by conv => lhs; simp [retE2, frqT, frqV, frqVs, frqL, frq1, reachE, blkRefs, outE, nodupE, firstE, seqO, expB2, expF, refsB, refsL, AV.refs, AV.ren, renL, renB, List.range, List.range.loop, resVs, resV, pack]) | fail "no return here"
 · have e2 : (a2 == 2) = false:=by simp [h2]
   rw [if_neg h2]
   simp only [gmB,u8B,zO,List.cons_append,List.nil_append]
   repeat' (first | intro (hb : _ = _) | refine ZV ?_ | refine ZB tm no_specs ?_ | refine ZH ?_ ?_ | refine ZJ (by conv=>lhs; simp [e2]) ?_ | refine ZA ?_ ?_)
   first | exact retE2_ok false (by conv => lhs; simp [retE2, frqT, frqV, frqVs, frqL, frq1, reachE, blkRefs, outE, nodupE, firstE, seqO, expB2, expF, refsB, refsL, AV.refs, AV.ren, renL, renB, List.range, List.range.loop, resVs, resV, pack]) | fail "no return here"
end
section
attribute [local simp] instA
attribute [-simp] mkv
attribute [local simp] mkv_hd hdA_cons hdA_ob hdA_ob'
theorem encO_inj {β : Type} {f : Tok × Ob → β} : ∀ x y,encO x = encO y → f x = f y := fun x y h => by
 obtain ⟨a,b⟩:=x
 obtain ⟨a',b'⟩:=y
 simp only [encO,obB,Prod.mk.injEq,List.cons.injEq,AV.agg.injEq,ABlk.mk.injEq,true_and,and_true] at h
 obtain ⟨h1,h2⟩:=h
 cases Tok.c_inj h1
 cases Td.ext h2
 rfl
theorem pu1_eq (a1 a2 : Int) (o : Ob) (a3 : Int) (a4 a5 : Bool) (q : Ob) : pu1S [.agg (.int .u64 a1 :: .int .i64 a2 :: (o.cells ++ [.int .i64 a3, .bool a4, .bool a5])), .ptr 0 0 0 0] [{ gen := 0,kind := 2,elem := 60,size := 36,inl := false,rows := [q.cells] }] = some (.agg (.int .u64 a1 :: .int .i64 a2 :: (q.cells ++ [.int .i64 a3, .bool a4, .bool a5])),[{ gen := 0,kind := 2,elem := 60,size := 36,inl := false,rows := [q.cells] }]) :=
 mkS2_eq (enc:=encO) (res:=fun d=>(.agg ({ d.1 with obj:=d.2 } : Tok).c,[obB d.2])) encO_inj (⟨a1,a2,o,a3,a4,a5⟩,q)
theorem encG_inj {β : Type} {f : Tok × Int × Int × Int → β} : ∀ x y,encG x = encG y → f x = f y := fun x y h => by
 obtain ⟨a,b,c,d⟩:=x
 obtain ⟨a',b',c',d'⟩:=y
 simp only [encG,gmB,u8B,Prod.mk.injEq,List.cons.injEq,AV.agg.injEq,AV.int.injEq,ABlk.mk.injEq,true_and,and_true] at h
 obtain ⟨h1,⟨rfl,rfl,rfl⟩, -⟩:=h
 cases Tok.c_inj h1
 rfl
theorem gv1_eq (a1 a2 : Int) (o : Ob) (a3 : Int) (a4 a5 : Bool) (fr to id : Int) (oc : List AV) (hc : (if a2 = 2 then o.cells else zO) = oc) : gv1S [.agg (.int .u64 a1 :: .int .i64 a2 :: (o.cells ++ [.int .i64 a3, .bool a4, .bool a5])), .ptr 0 0 0 0, .ptr 1 0 0 0] [gmB fr to id 0 zO,u8B id] = some (.agg (.int .u64 id :: .int .i64 0 :: (zO ++ [.int .i64 a3, .bool false, .bool false])),[gmB fr to id a2 oc,u8B id]) := by
 subst hc
 exact mkS2_eq (enc:=encG) (res:=fun d=>(.agg (.int .u64 d.2.2.2 :: .int .i64 0 :: (zO ++ [.int .i64 d.1.want, .bool false, .bool false])),[gmB d.2.1 d.2.2.1 d.2.2.2 d.1.mode (gOb d.1),u8B d.2.2.2])) encG_inj (⟨a1,a2,o,a3,a4,a5⟩,fr,to,id)
noncomputable def wpuS : SpecFn := mkS2 (fun x : WF × Ob => ([x.1.1.1.v, .int .u64 x.1.1.2.1, .fn (.func 33) [] [ .ptr 0 0 0 0]],[obB x.2])) fun x => (.agg [.int .i64 x.1.1.1.node, .list 41 ((wiF (bsT x.1.1.1.toks x.1.1.2.1) ({ x.1.1.2.2 with obj := x.2 }) x.1.1.1.toks).map Tok.c)],[obB x.2])
noncomputable def wpu_specs : NL Spec := [(28,⟨1,cp2S⟩),(45,⟨0,bstS⟩),(49,⟨3,deleteC 71 41⟩),(33,⟨3,pu1S⟩)]
theorem wpu_specs_ok : ∀ p ∈ wpu_specs,FnC Try.prog p.1 p.2.fn := by
 simp only [wpu_specs,List.mem_cons,List.not_mem_nil,or_false]
 rintro p (rfl | rfl | rfl | rfl)
 · exact cp2_ok
 · exact bst_ok
 · exact delete49_ok
 · exact pu1_ok
attribute [local simp] wpu_specs cp2_eq bst_eq pu1_eq
theorem wpu_ok : FnC Try.prog 22 wpuS := by
 refine FnC.walkBN 22 (fn:=Try.f22) [30] Try.func22 rfl (by kernel_rfl) (fun x b hb=>by simp at hb; rw [hb]; rfl) (fun x=>?_) (fun x=>⟨_,tks_nrmR _ _⟩)
 obtain ⟨⟨⟨⟨nd,l,hl⟩,id,t⟩,ht,hi⟩,q⟩:=x
 dsimp only at ht hi
 obtain ⟨i,hE⟩ : ∃ i,bsT l id = i:=⟨_,rfl⟩
 rw [hE] at ht
 have hA : hasAt l i id = true:=by simp [hasAt,ht,hi]
 have hil : i < l.length:=(List.getElem?_eq_some_iff.1 ht).1
 have hm : (l.map Tok.c)[i]? = some t.c:=by rw [List.getElem?_map,ht]; rfl
 obtain ⟨a1,a2,o,a3,a4,a5⟩:=t
 change W _ (RetBN _ _ _ 1 (.agg [.int .i64 nd, .list 41 ((wiF (bsT l id) (⟨a1,a2,q,a3,a4,a5⟩) l).map Tok.c)]) [obB q]) _ _ ⟨62,[(0, .agg [.int .i64 nd, .list 41 (l.map Tok.c)]),(1, .int .u64 id),(2, .fn (.func 33) [] [ .ptr 0 0 0 0])],[(0,obB q)]⟩
 have hl2 : l.length ≤ 9001:=by omega
 simp only [Tok.c] at hm hi
 have q2 : ¬ l.length ≤ i:=by omega
 have q3 : (i : Int) < l.length:=by omega
 have q4 : l.length ≤ 1000000:=by omega
 have hw : IntKind.i64.wrap ((i : Int) + 1) = ((i + 1 : Nat) : Int):=w64 (by omega) (by omega)
 have n1 : i ≤ min i l.length:=by omega
 have n2 : ∀ L : List (List AV),L.length = l.length → List.take (i + (l.length - (i + 1))) (List.take i L ++ List.drop (i + 1) L) = List.take i L ++ List.drop (i + 1) L:=fun L h=>List.take_of_length_le (by simp [h]; omega)
 have n3 : ∀ X,List.take l.length ((List.map Tok.c l).set i X) = (List.map Tok.c l).set i X:=fun X=>List.take_of_length_le (by simp)
 have hs : ∀ X,((List.map Tok.c l).set i X)[i]? = some X:=fun X=>List.getElem?_set_self (by simpa using hil)
 simp only [obB]
 repeat' (first | intro (hb : _ = _) | refine ZV ?_ | refine ZB tm wpu_specs_ok ?_ | refine ZH ?_ ?_ | refine ZJ (by conv=>lhs; simp [hs,hl,hl2,tkB0,bstR,hE,hA,hm,take_acc,hi,q2,q3,hw,del_eq,q4]) ?_ | refine ZA ?_ ?_)
 all_goals (refine RetBN.dataE true [0] rfl (by conv=>lhs; simp) (by conv=>lhs; simp [n1,n2,n3,dropset,frqT,frqV,frqVs,frqL,frq1]) (by decide) (by rintro j hj; rcases (show j = 0 by omega) with rfl; exact ⟨rfl,rfl⟩) (by simp) (by conv=>lhs; simp) ?_)
 all_goals (refine (congrArg (fun r=>nrmR Try.prog [30] (AV.agg [AV.int .i64 nd,AV.list 41 r])) ?_).trans (tks_nrmR nd _))
 all_goals (subst hi; simp_all [wiF,Tok.gone,List.map_append,List.map_take,List.map_drop,List.map_set])
theorem nrm_toks (l : List Tok) : (l.map Tok.c).map (nrmL Try.prog (leafs Try.prog 71)) = l.map Tok.c := by
 rw [List.map_map]
 exact List.map_congr_left fun t _=>tok_nrm t
theorem gOb_len (t : Tok) : (gOb t).length = 36 := by
 unfold gOb
 split
 · simp
 · rfl
theorem gOb_ren (t : Tok) (f : Nat → Nat → Option (Nat × Nat)) : renL f (gOb t) = gOb t := by
 unfold gOb
 split
 · simp
 · simp [zO,renL,AV.ren]
theorem gOb_refs (t : Tok) : refsL (gOb t) = [] := by
 unfold gOb
 split
 · simp
 · simp [zO,refsL,AV.refs]
noncomputable def wgv_specs : NL Spec := [(28,⟨1,cp2S⟩),(45,⟨0,bstS⟩),(49,⟨3,deleteC 71 41⟩),(69,⟨3,gv1S⟩)]
theorem wgv_specs_ok : ∀ p ∈ wgv_specs,FnC Try.prog p.1 p.2.fn := by
 simp only [wgv_specs,List.mem_cons,List.not_mem_nil,or_false]
 rintro p (rfl | rfl | rfl | rfl)
 · exact cp2_ok
 · exact bst_ok
 · exact delete49_ok
 · exact gv1_ok
attribute [local simp] wgv_specs cp2_eq bst_eq
end
section
attribute [local simp] instA
attribute [-simp] mkv
attribute [local simp] mkv_hd hdA_cons hdA_ob hdA_ob'
theorem bsF_bdT (c : Nat → Bool) : ∀ (d lo hi : Nat),hi - lo = d → lo ≤ hi → lo ≤ bsF c lo hi ∧ bsF c lo hi ≤ hi := by
 intro d
 induction d using Nat.strongRecOn with
 | ind d ih =>
   intro lo hi hd hl
   by_cases h : lo < hi
   · rw [bsF_lt h]
     split
     · have:=ih (hi - ((lo + hi) / 2 + 1)) (by omega) ((lo + hi) / 2 + 1) hi rfl (by omega)
       omega
     · have:=ih ((lo + hi) / 2 - lo) (by omega) lo ((lo + hi) / 2) rfl (by omega)
       omega
   · rw [bsF_ge h]
     omega
theorem bsT_le (l : List Tok) (id : Int) : bsT l id ≤ l.length := (bsF_bdT _ _ 0 l.length rfl (by omega)).2
theorem insert_eq (elem size bytes n i : Nat) (rows : List (List AV)) (z : List AV) (hn : n = rows.length) (h1 : n ≤ 1000000) (hb : (n + 1) * bytes ≤ 140737488355328) (hi : i ≤ n) : insertC elem size bytes [.sl 0 0 0 n, .int .i64 (i : Nat), .sl 1 0 0 1] [{ gen := 0,kind := 2,elem := elem,size := size,inl := true,rows }, { gen := 0,kind := 2,elem := elem,size := size,inl := true,rows := [z] }] = some (.sl 0 1 0 (n + 1),[{ gen := 1,kind := 2,elem := elem,size := size,inl := true,rows := rows.take i ++ [z] ++ rows.drop i }, { gen := 0,kind := 2,elem := elem,size := size,inl := true,rows := [z] }]) := by
 unfold insertC
 simp only [okB,beq_self_eq_true,Bool.and_self,true_and,Int.toNat_natCast,rowB]
 rw [if_pos ⟨hn,rfl,hb,h1,by omega,by omega⟩]
noncomputable def mq2N : SpecFn := nS Try.prog [71,41] mq2S
theorem mq2N_ok : FnC Try.prog 23 mq2N := mq2_ok.nrm _
theorem mq2N_eq (id mode want : Int) (pin due : Bool) (q : Ob) : mq2N [.agg (.int .u64 id :: .int .i64 mode :: (zO ++ [.int .i64 want, .bool pin, .bool due])), .ptr 0 0 0 0] [obB q] = some (.agg (⟨oid q,2,q,0,false,false⟩ : Tok).c,[obB q]) := by
 rw [mq2N,nS_eq]
 simp only [nrmL]
 rw [show nrmV Try.prog 71 (.agg (.int .u64 id :: .int .i64 mode :: (zO ++ [.int .i64 want, .bool pin, .bool due]))) = .agg (⟨id,mode,zOb,want,pin,due⟩ : Tok).c by rw [nrmV,tok_nrm0]]
 exact mkS2_eq (enc:=encO) (res:=fun d=>(.agg (⟨oid d.2,2,d.2,0,false,false⟩ : Tok).c,[obB d.2])) encO_inj (⟨id,mode,zOb,want,pin,due⟩,q)
def WN := { x : Tks × Ob // hasAt x.1.toks (bsT x.1.toks (oid x.2)) (oid x.2) = false }
def wiN (i : Nat) (t' : Tok) (l : List Tok) : List Tok := l.take i ++ t' :: l.drop i
noncomputable def wmkS : SpecFn := mkS2 (fun x : WN => ([x.1.1.v, .int .u64 (oid x.1.2), .fn (.func 23) [] [.ptr 0 0 0 0]],[obB x.1.2])) fun x => (.agg [.int .i64 x.1.1.node, .list 41 ((wiN (bsT x.1.1.toks (oid x.1.2)) ⟨oid x.1.2,2,x.1.2,0,false,false⟩ x.1.1.toks).map Tok.c)],[obB x.1.2])
noncomputable def wmk_specs : NL Spec := [(28,⟨1,cp2S⟩),(45,⟨0,bstS⟩),(48,⟨3,insertC 71 41 496⟩),(49,⟨3,deleteC 71 41⟩),(23,⟨3,mq2N⟩)]
theorem wmk_specs_ok : ∀ p ∈ wmk_specs,FnC Try.prog p.1 p.2.fn := by
 simp only [wmk_specs,List.mem_cons,List.not_mem_nil,or_false]
 rintro p (rfl | rfl | rfl | rfl | rfl)
 · exact cp2_ok
 · exact bst_ok
 · exact insert48_ok
 · exact delete49_ok
 · exact mq2N_ok
attribute [local simp] wmk_specs cp2_eq bst_eq
theorem wmk_ok : FnC Try.prog 22 wmkS := by
 refine FnC.walkBN 22 (fn:=Try.f22) [30] Try.func22 rfl (by kernel_rfl) (fun x b hb=>by simp at hb; rw [hb]; rfl) (fun x=>?_) (fun x=>⟨_,tks_nrmR _ _⟩)
 obtain ⟨⟨⟨nd,l,hl⟩,q⟩,hA⟩:=x
 dsimp only at hA
 have hil:=bsT_le l (oid q)
 obtain ⟨i,hE⟩ : ∃ i,bsT l (oid q) = i:=⟨_,rfl⟩
 have cq:=mq2N_eq (oid q) 0 0 false false q
 change W _ (RetBN _ _ _ 1 (.agg [.int .i64 nd, .list 41 ((wiN (bsT l (oid q)) ⟨oid q,2,q,0,false,false⟩ l).map Tok.c)]) [obB q]) _ _ ⟨62,[(0, .agg [.int .i64 nd, .list 41 (l.map Tok.c)]),(1, .int .u64 (oid q)),(2, .fn (.func 23) [] [.ptr 0 0 0 0])],[(0,obB q)]⟩
 rw [hE] at hA hil
 generalize oid q = id at *
 have hl2 : l.length ≤ 9001:=by omega
 have q3 : (i : Int) < (l.length : Int) + 1:=by omega
 have q4 : l.length ≤ 1000000:=by omega
 have q5 : (l.length + 1) * 496 ≤ 140737488355328:=by omega
 have hw : IntKind.i64.wrap ((i : Int) + 1) = ((i + 1 : Nat) : Int):=w64 (by omega) (by omega)
 have hL : (List.take i (List.map Tok.c l)).length = i:=by simp; omega
 simp only [obB,zO,Tok.c,List.cons_append,List.nil_append] at cq ⊢
 have hg : ∀ z D,(List.take i (List.map Tok.c l) ++ z :: D)[i]? = some z:=fun z D=>by rw [List.getElem?_append_right (by omega),hL,Nat.sub_self]; rfl
 have hsx : ∀ z D x,(List.take i (List.map Tok.c l) ++ z :: D).set i x = List.take i (List.map Tok.c l) ++ x :: D:=fun z D x=>by rw [List.set_append_right _ _ (by omega),hL,Nat.sub_self]; rfl
 have n1 : ∀ z : List AV,List.take (l.length + 1) (List.take i (List.map Tok.c l) ++ z :: List.drop i (List.map Tok.c l)) = List.take i (List.map Tok.c l) ++ z :: List.drop i (List.map Tok.c l):=fun z=>List.take_of_length_le (by simp; omega)
 have n2 : l.length + 1 ≤ min i l.length + (l.length - i + 1):=by omega
 repeat' (first | intro (hb : _ = _) | refine ZV ?_ | refine ZB tm wmk_specs_ok ?_ | refine ZH ?_ ?_ | refine ZJ (by conv=>lhs; simp [hl,hl2,tkB0,bstR,hE,hA,take_acc,insert_eq,q3,q4,q5,hil,cq,m1,hg,hsx]) ?_ | refine ZA ?_ ?_)
 all_goals (refine RetBN.dataE true [0] rfl (by conv=>lhs; simp) (by conv=>lhs; simp [n1,n2,frqT,frqV,frqVs,frqL,frq1]) (by decide) (by rintro j hj; rcases (show j = 0 by omega) with rfl; exact ⟨rfl,rfl⟩) (by simp) (by conv=>lhs; simp) ?_)
 all_goals (refine (congrArg (fun r=>nrmR Try.prog [30] (AV.agg [AV.int .i64 nd,AV.list 41 r])) ?_).trans (tks_nrmR nd _))
 simp [hE,wiN]
end
section
theorem bsF_spec {c : Nat → Bool} (mono : ∀ j k,j ≤ k → c k = true → c j = true) : ∀ (d lo hi : Nat),hi - lo = d → lo ≤ hi → ∀ k,lo ≤ k → k < hi → (c k = true ↔ k < bsF c lo hi) := by
 intro d
 induction d using Nat.strongRecOn with
 | ind d ih =>
   intro lo hi hd hl k h1 h2
   by_cases h : lo < hi
   · rw [bsF_lt h]
     by_cases hm : c ((lo + hi) / 2) = true
     · rw [if_pos hm]
       by_cases hk : k ≤ (lo + hi) / 2
       · have hb:=(bsF_bdT c _ ((lo + hi) / 2 + 1) hi rfl (by omega)).1
         exact ⟨fun _=>by omega,fun _=>mono _ _ hk hm⟩
       · exact ih (hi - ((lo + hi) / 2 + 1)) (by omega) ((lo + hi) / 2 + 1) hi rfl (by omega) k (by omega) h2
     · rw [if_neg hm]
       by_cases hk : k < (lo + hi) / 2
       · exact ih ((lo + hi) / 2 - lo) (by omega) lo ((lo + hi) / 2) rfl (by omega) k h1 hk
       · have hb:=(bsF_bdT c _ lo ((lo + hi) / 2) rfl (by omega)).2
         exact ⟨fun e=>absurd (mono _ _ (by omega) e) hm,fun e=>by omega⟩
   · omega
def Srt (l : List Tok) : Prop := l.Pairwise fun a b => a.id < b.id
theorem valid_srt {nd : Int} {l : List Tok} (h : valid nd l = true) : Srt l := by
 unfold valid at h
 rw [Bool.and_eq_true,List.all_eq_true] at h
 have h1 : ∀ i s t,l[i]? = some s → l[i + 1]? = some t → s.id < t.id:=fun i s t hs ht=>by
   have hlt:=(List.getElem?_eq_some_iff.1 ht).1
   have:=h.1 (i + 1) (List.mem_range.2 hlt)
   simp only [good,ht,hs,Bool.and_eq_true,decide_eq_true_eq] at this
   exact this.2
 have h2 : ∀ (l : List Tok),(∀ i s t,l[i]? = some s → l[i + 1]? = some t → s.id < t.id) → Srt l:=by
   intro l
   induction l with
   | nil=>intro _; exact List.Pairwise.nil
   | cons x r ih =>
     intro h
     have hr:=ih fun i s t hs ht=>h (i + 1) s t (by simpa using hs) (by simpa using ht)
     refine List.Pairwise.cons (fun y hy=>?_) hr
     cases r with
     | nil=>cases hy
     | cons z q =>
       have hz:=h 0 x z rfl rfl
       rcases List.mem_cons.1 hy with rfl | hy
       · exact hz
       · have:=(List.pairwise_cons.1 hr).1 y hy
         omega
 exact h2 l h1
def At (l : List Tok) (id : Int) (i : Nat) : Prop := i ≤ l.length ∧ ∀ k t,l[k]? = some t → (t.id < id ↔ k < i)
theorem At.zero {x : Tok} {l : List Tok} {id : Int} (h : At (x :: l) id 0) : ¬ x.id < id := fun e => by have := (h.2 0 x rfl).1 e; omega
theorem At.succ {x : Tok} {l : List Tok} {id : Int} {i : Nat} (h : At (x :: l) id (i + 1)) : x.id < id ∧ At l id i :=
 ⟨(h.2 0 x rfl).2 (by omega),by have:=h.1; simp at this; omega,fun k t hk=>by have:=h.2 (k + 1) t (by simpa using hk); omega⟩
theorem Srt.get {l : List Tok} (h : Srt l) {j k : Nat} {s t : Tok} (hj : l[j]? = some s) (hk : l[k]? = some t) (hl : j < k) : s.id < t.id := by
 obtain ⟨h1,e1⟩:=List.getElem?_eq_some_iff.1 hj
 obtain ⟨h2,e2⟩:=List.getElem?_eq_some_iff.1 hk
 have:=List.pairwise_iff_getElem.1 h j k h1 h2 hl
 rw [e1,e2] at this
 exact this
theorem bsT_at {l : List Tok} (h : Srt l) (id : Int) : At l id (bsT l id) := by
 refine ⟨bsT_le l id,fun k t hk=>?_⟩
 have hlt:=(List.getElem?_eq_some_iff.1 hk).1
 have:=bsF_spec (c:=fun k=>match l[k]? with | some t=>decide (t.id < id) | none=>false) (fun j k hjk hc=>by
   cases hk : l[k]? with
   | none=>simp [hk] at hc
   | some t =>
     simp only [hk,decide_eq_true_eq] at hc
     have hlt:=(List.getElem?_eq_some_iff.1 hk).1
     obtain ⟨s,hs⟩:=get_lt (l:=l) (i:=j) (by omega)
     simp only [hs,decide_eq_true_eq]
     rcases Nat.lt_or_ge j k with q | q
     · have:=h.get hs hk q
       omega
     · have : j = k:=by omega
       subst this
       rw [hs] at hk
       cases hk
       exact hc) _ 0 l.length rfl (by omega) k (by omega) hlt
 simp only [hk,decide_eq_true_eq] at this
 exact this
theorem fnd_at : ∀ {l : List Tok} {id : Int} {i : Nat},Srt l → At l id i → fnd id l = match l[i]? with | some t => if t.id = id then some t else none | none => none
 | [],id,i,_,_=>by simp [fnd]
 | x :: r,id,0,hs,ha=>by
   have h0:=ha.zero
   simp only [fnd,List.getElem?_cons_zero]
   split
   · rfl
   · rename_i hne
     have : ∀ l : List Tok,(∀ y ∈ l,id < y.id) → fnd id l = none:=by
       intro l
       induction l with
       | nil=>intro _; rfl
       | cons y q ih =>
         intro h
         rw [fnd,if_neg (by have:=h y (by simp); omega)]
         exact ih fun z hz=>h z (by simp [hz])
     exact this r fun y hy=>by have:=(List.pairwise_cons.1 hs).1 y hy; omega
 | x :: r,id,i + 1,hs,ha=>by
   obtain ⟨h1,h2⟩:=ha.succ
   rw [fnd,if_neg (by omega),List.getElem?_cons_succ]
   exact fnd_at (List.pairwise_cons.1 hs).2 h2
theorem putL_gt {t : Tok} : ∀ {l : List Tok},(∀ y ∈ l,t.id < y.id) → putL t true l = l
 | [],_=>rfl
 | y :: q,h=>by
   have hy:=h y (by simp)
   rw [putL,if_neg (by simp),if_neg (by omega),Bool.true_or,putL_gt fun z hz=>h z (by simp [hz])]
   rfl
theorem putL_found {t : Tok} : ∀ {l : List Tok} {d : Bool} {i : Nat} {t0 : Tok},Srt l → At l t.id i → l[i]? = some t0 → t0.id = t.id → putL t d l = if d = true then l.take i ++ l.drop (i + 1) else l.set i t
 | [],d,i,t0,_,_,h,_=>by simp at h
 | x :: r,d,0,t0,hs,ha,h,he=>by
   simp only [List.getElem?_cons_zero,Option.some.injEq] at h
   subst h
   have hg:=fun y hy=>(List.pairwise_cons.1 hs).1 y hy
   rw [putL,if_pos he,show (d || decide (t.id ≤ x.id)) = true by simp; right; omega,putL_gt fun y hy=>by have:=hg y hy; omega]
   cases d with
   | true=>simp
   | false=>rw [if_pos ⟨rfl,by omega⟩]; simp
 | x :: r,d,i + 1,t0,hs,ha,h,he=>by
   obtain ⟨h1,h2⟩:=ha.succ
   rw [List.getElem?_cons_succ] at h
   rw [putL,if_neg (by omega),if_neg (by omega),show (d || decide (t.id ≤ x.id)) = d by rw [decide_eq_false (by omega),Bool.or_false],putL_found (List.pairwise_cons.1 hs).2 h2 h he]
   cases d <;> simp
theorem putL_new {t : Tok} : ∀ {l : List Tok} {i : Nat},Srt l → At l t.id i → (∀ t0,l[i]? = some t0 → t0.id ≠ t.id) → putL t false l = l.take i ++ t :: l.drop i
 | [],i,_,_,_=>by simp [putL]
 | x :: r,0,hs,ha,h=>by
   have h0:=ha.zero
   have hne:=h x rfl
   have hg:=fun y hy=>(List.pairwise_cons.1 hs).1 y hy
   rw [putL,if_pos ⟨rfl,by omega⟩,if_neg hne,show (false || decide (t.id ≤ x.id)) = true by simp; omega,putL_gt fun y hy=>by have:=hg y hy; omega]
   rfl
 | x :: r,i + 1,hs,ha,h=>by
   obtain ⟨h1,h2⟩:=ha.succ
   rw [putL,if_neg (by omega),if_neg (by omega),show (false || decide (t.id ≤ x.id)) = false by simp; omega,putL_new (List.pairwise_cons.1 hs).2 h2 fun t0 ht=>h t0 (by simpa using ht)]
   rfl
theorem fnd_get {l : List Tok} {id : Int} {t : Tok} (hs : Srt l) (h : fnd id l = some t) : l[bsT l id]? = some t ∧ t.id = id := by
 rw [fnd_at hs (bsT_at hs id)] at h
 split at h
 · rename_i t0 h0
   split at h
   · rename_i he
     cases h
     exact ⟨h0,he⟩
   · cases h
 · cases h
theorem fnd_none {l : List Tok} {id : Int} (hs : Srt l) (h : fnd id l = none) : hasAt l (bsT l id) id = false := by
 rw [fnd_at hs (bsT_at hs id)] at h
 unfold hasAt
 split at h
 · rename_i t0 h0
   split at h
   · cases h
   · rename_i hne
     first
       | (rw [h0]; simp [hne])
       | simp [hne]
 · rename_i h0
   first
     | rw [h0]
     | rfl
theorem wiF_put {l : List Tok} {t t' : Tok} (hs : Srt l) (h : fnd t'.id l = some t) : wiF (bsT l t'.id) t' l = put t' l := by
 obtain ⟨h1,h2⟩:=fnd_get hs h
 rw [wiF,put,putL_found hs (bsT_at hs _) h1 h2]
theorem wiN_put {l : List Tok} {t' : Tok} (hs : Srt l) (h : fnd t'.id l = none) (hg : t'.gone = false) : wiN (bsT l t'.id) t' l = put t' l := by
 have h1:=fnd_none hs h
 rw [wiN,put,hg,putL_new hs (bsT_at hs _) fun t0 ht=>by
   unfold hasAt at h1
   rw [ht] at h1
   simpa using h1]
end
end Go.Abs.Np
