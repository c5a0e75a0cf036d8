/- The program's networks: what is done with one link. Conditions: none. -/
import Derived.Test.YtphclapfniepoaaNn2
namespace Go.Abs.Nn
open Go Go.Proofs Go.Abs
set_option maxRecDepth 100000
set_option maxHeartbeats 4000000
set_option linter.unusedSimpArgs false
set_option linter.unusedVariables false
section
attribute [local simp] instA slice3A slice3C
attribute [-simp] mkv
attribute [local simp] mkv_hd hdA_cons hdA_ob hdA_ob'
theorem rowsQ_len' (l : List Lk) (i : Nat) (x : Lk) (a : AV) : (rowsQ l i x a).length = l.length := rowsQ_len l i x a
theorem rowsQ_at {l : List Lk} {i : Nat} (h : i < l.length) (x : Lk) (a : AV) : (rowsQ l i x a)[i]? = some (rowQ x a) := by
 unfold rowsQ
 rw [List.getElem?_set,if_pos rfl,if_pos (by simpa using h)]
theorem rowsQ_set (l : List Lk) (i : Nat) (x y : Lk) (a b : AV) : (rowsQ l i x a).set i (rowQ y b) = rowsQ l i y b := by
 unfold rowsQ
 rw [List.set_set]
theorem rowsQ_ren (f : Nat → Nat → Option (Nat × Nat)) (l : List Lk) (i : Nat) (x : Lk) (a : AV) : (rowsQ l i x a).map (renL f) = rowsQ l i x (a.ren f) := by
 unfold rowsQ
 rw [List.map_set,renR_lkC]
 rfl
theorem refsL_lkC (x : Lk) : refsL (lkC x) = [] := by simp [refsL,lkC,AV.refs]
theorem rowsQ_refs {l : List Lk} {i : Nat} (h : i < l.length) (x : Lk) (a : AV) : (rowsQ l i x a).flatMap refsL = a.refs := by
 have h0 : ∀ l : List Lk,(l.map lkC).flatMap refsL = []:=fun l=>by
   rw [List.flatMap_eq_nil_iff]
   intro r hr
   obtain ⟨y,_,rfl⟩:=List.mem_map.1 hr
   exact refsL_lkC y
 unfold rowsQ
 rw [List.set_eq_take_append_cons_drop,if_pos (by simpa using h),List.flatMap_append,List.flatMap_cons, ← List.map_take, ← List.map_drop,h0,h0]
 simp [rowQ,refsL,AV.refs]
def mB (m : Msg) : ABlk := { gen := 0,kind := 2,elem := 50,size := 45,inl := false,rows := [m.v] }
theorem rowsQ_open {l : List Lk} {i : Nat} (hi : i < l.length) (x : Lk) (a : AV) : ∃ R,rowsQ l i x a = R ∧ R.length = l.length ∧ R[i]? = some [.int .i64 x.fr, .int .i64 x.to, .bool x.cut,a] ∧ (∀ v,R.set i [.int .i64 x.fr, .int .i64 x.to, .bool x.cut,v] = rowsQ l i x v) ∧ (∀ v,R.set i [.int .i64 x.fr, .int .i64 x.to, .bool v,a] = rowsQ l i { x with cut := v } a) :=
 ⟨_,rfl,rowsQ_len' l i x a,rowsQ_at hi x a,fun v=>rowsQ_set l i x x a v,fun v=>rowsQ_set l i x { x with cut:=v } a a⟩
theorem rowsQ_chg {l l' : List Lk} {i : Nat} (h0 : i < l.length) (h0' : i < l'.length) {x y : Lk} {a : AV} (h : rowsQ l i x a = rowsQ l' i y a) (b : AV) : rowsQ l i x b = rowsQ l' i y b ∧ x.fr = y.fr ∧ x.to = y.to ∧ x.cut = y.cut := by
 have h1:=rowsQ_at h0 x a
 have h2:=rowsQ_at h0' y a
 rw [h,h2] at h1
 simp only [Option.some.injEq,rowQ,List.cons.injEq,AV.int.injEq,AV.bool.injEq,true_and] at h1
 refine ⟨?_,h1.1.symm,h1.2.1.symm,h1.2.2.1.symm⟩
 rw [← rowsQ_set l i x x a b,h, ← rowsQ_set l' i y y a b]
 congr 1
 simp only [rowQ]
 rw [h1.1,h1.2.1,h1.2.2.1]
theorem rowsQ_injA {i : Nat} {d e : LkAt i} {b : Nat} (h : rowsQ d.1.1.ls i d.1.2 (.sl b 0 0 d.1.2.q.length) = rowsQ e.1.1.ls i e.1.2 (.sl b 0 0 e.1.2.q.length)) (hq : d.1.2.q.map Msg.v = e.1.2.q.map Msg.v) : d = e := by
 refine rowsQ_inj ?_ hq
 have hd:=(List.getElem?_eq_some_iff.1 d.2).1
 have he:=(List.getElem?_eq_some_iff.1 e.2).1
 rw [msgv_inj hq] at h ⊢
 exact (rowsQ_chg hd he h _).1
def encS (i : Nat) (d : LkAt i × Msg) : List AV × List ABlk := ([.ptr 0 0 i 0, .ptr 1 0 0 0],[oB 0 false (rowsQ d.1.1.1.ls i d.1.1.2 (.sl 2 0 0 d.1.1.2.q.length)),mB d.2,qB 0 d.1.1.2.q])
theorem mB_inj {a b : Msg} (h : mB a = mB b) : a = b := by
 simp only [mB,ABlk.mk.injEq,List.cons.injEq,true_and,and_true] at h
 have h2 : [a] = [b]:=msgv_inj (by rw [List.map_cons,List.map_cons,h])
 simpa using h2
theorem encS_inj {i : Nat} {β : Type} {f : LkAt i × Msg → β} : ∀ x y,encS i x = encS i y → f x = f y := fun x y h => by
 obtain ⟨d,m⟩:=x
 obtain ⟨d',m'⟩:=y
 simp only [encS,oB,qB,Prod.mk.injEq,List.cons.injEq,ABlk.mk.injEq,true_and,and_true] at h
 obtain ⟨h1,h3,h2⟩:=h
 rw [rowsQ_injA h1 h2,mB_inj h3]
noncomputable def sndQS (i : Nat) : SpecFn := mkS2 (encS i) fun d => (.tup [],[oB 0 false (rowsQ d.1.1.1.ls i d.1.1.2 (.sl 2 1 0 (d.1.1.2.q.length + 1))),mB d.2,qB 1 (d.1.1.2.q ++ [d.2])])
theorem sndQS_eq (i : Nat) (d : Nts) (x : Lk) (h : d.ls[i]? = some x) (m : Msg) : sndQS i [.ptr 0 0 i 0, .ptr 1 0 0 0] [oB 0 false (rowsQ d.ls i x (.sl 2 0 0 x.q.length)),mB m,qB 0 x.q] = some (.tup [],[oB 0 false (rowsQ d.ls i x (.sl 2 1 0 (x.q.length + 1))),mB m,qB 1 (x.q ++ [m])]) :=
 mkS2_eq (enc:=encS i) (res:=fun d=>(.tup [],[oB 0 false (rowsQ d.1.1.1.ls i d.1.1.2 (.sl 2 1 0 (d.1.1.2.q.length + 1))),mB d.2,qB 1 (d.1.1.2.q ++ [d.2])])) encS_inj (⟨(d,x),h⟩,m)
theorem sndQ_ok (i : Nat) : FnC Try.prog 27 (sndQS i) := by
 refine FnC.walkM 27 (fn:=Try.f27) Try.func27 rfl (by kernel_rfl) (fun x b hb=>by simp [encS] at hb; rcases hb with rfl | rfl | rfl <;> rfl) fun d=>?_
 obtain ⟨⟨⟨⟨l,lh,lq⟩,x⟩,hx⟩,m⟩:=d
 dsimp only at hx
 have hi:=(List.getElem?_eq_some_iff.1 hx).1
 have hq : x.q.length ≤ 9000:=lq x (List.mem_of_getElem? hx)
 change W _ (RetM _ _ 3 (.tup []) [oB 0 false (rowsQ l i x (.sl 2 1 0 (x.q.length + 1))),mB m,qB 1 (x.q ++ [m])]) _ _ ⟨13,[(0, .ptr 0 0 i 0),(1, .ptr 1 0 0 0)],[(0,oB 0 false (rowsQ l i x (.sl 2 0 0 x.q.length))),(1,mB m),(2,qB 0 x.q)]⟩
 obtain ⟨R,hR,hl,hg,hs, -⟩:=rowsQ_open hi x (.sl 2 0 0 x.q.length)
 rw [hR]
 have hmv : ∀ f,renL f m.v = m.v:=fun f=>by simp [renL,Msg.v,AV.ren]
 have hmv2 : m.v.length = 45:=by simp [Msg.v]
 obtain ⟨a,b,c,q⟩:=x
 obtain ⟨b1,b2,b3,b4,b5,o,b6,b7,b8,b9⟩:=m
 dsimp only at hg hs hq
 simp only [Msg.v] at hmv
 have m1 : (1 : Nat) ≤ maxLen:=by decide
 have q1 : (i : Int) < l.length:=by omega
 have q2 : ¬ l.length ≤ i:=by omega
 have y1 : (q.length + 1) * 536 ≤ 140737488355328:=by omega
 have y2 : q.length + 1 ≤ maxLen:=by simp only [maxLen]; omega
 clear hi hx
 repeat' (first | intro (hb : _ = _) | refine ZV ?_ | refine ZB tm no_specs ?_ | refine ZH ?_ ?_ | refine ZJ (by conv=>lhs; simp [q1,q2,hl,hg,hs,oB,qB,mB,Msg.v,m1,y1,y2]) ?_ | refine ZA ?_ ?_)
 refine retM2_ok false [0,1,2] [0,0,1] ?_
 simp [retM2,movedOK,oldOK,frqT,frqV,frqVs,frqL,frq1,expG,expB3,renB,AV.ren,List.range,List.range.loop,resVs,resV,pack,List.zipWith,List.idxOf?,List.findIdx?,List.findIdx?.go,rowsQ_ren,oB,mB,qB,hmv,Msg.v]
def encSN (i : Nat) (d : {l : List Lk // i < l.length} × (Lk × Msg)) : List AV × List ABlk := ([.ptr 0 0 i 0, .ptr 1 0 0 0],[oB 0 false (rowsQ d.1.1 i d.2.1 .nils),mB d.2.2])
noncomputable def sndNS (i : Nat) : SpecFn := mkS2 (encSN i) fun d => (.tup [],[oB 0 false (rowsQ d.1.1 i d.2.1 (.sl 2 0 0 1)),mB d.2.2,qB 0 [d.2.2]])
theorem sndNS_eq (i : Nat) (l : List Lk) (h : i < l.length) (x : Lk) (m : Msg) : sndNS i [.ptr 0 0 i 0, .ptr 1 0 0 0] [oB 0 false (rowsQ l i x .nils),mB m] = some (.tup [],[oB 0 false (rowsQ l i x (.sl 2 0 0 1)),mB m,qB 0 [m]]) :=
 mkS2_eq (enc:=encSN i) (res:=fun d=>(.tup [],[oB 0 false (rowsQ d.1.1 i d.2.1 (.sl 2 0 0 1)),mB d.2.2,qB 0 [d.2.2]])) (fun x y h=>by
   obtain ⟨⟨l,hl⟩,x,m⟩:=x
   obtain ⟨⟨l',hl'⟩,x',m'⟩:=y
   simp only [encSN,oB,Prod.mk.injEq,List.cons.injEq,ABlk.mk.injEq,true_and,and_true] at h
   obtain ⟨h1,h3⟩:=h
   dsimp only
   rw [(rowsQ_chg hl hl' h1 (.sl 2 0 0 1)).1,mB_inj h3]) (⟨l,h⟩,x,m)
theorem sndN_ok (i : Nat) : FnC Try.prog 27 (sndNS i) := by
 refine FnC.walkB 27 (fn:=Try.f27) Try.func27 rfl (by kernel_rfl) (fun x b hb=>by simp [encSN] at hb; rcases hb with rfl | rfl <;> rfl) fun d=>?_
 obtain ⟨⟨l,hi⟩,x,m⟩:=d
 change W _ (RetB _ _ 2 (.tup []) [oB 0 false (rowsQ l i x (.sl 2 0 0 1)),mB m,qB 0 [m]]) _ _ ⟨13,[(0, .ptr 0 0 i 0),(1, .ptr 1 0 0 0)],[(0,oB 0 false (rowsQ l i x .nils)),(1,mB m)]⟩
 obtain ⟨R,hR,hl,hg,hs, -⟩:=rowsQ_open hi x .nils
 rw [hR]
 have hmv : ∀ f,renL f m.v = m.v:=fun f=>by simp [renL,Msg.v,AV.ren]
 obtain ⟨a,b,c,q⟩:=x
 obtain ⟨b1,b2,b3,b4,b5,o,b6,b7,b8,b9⟩:=m
 dsimp only at hg hs
 simp only [Msg.v] at hmv
 have m1 : (1 : Nat) ≤ maxLen:=by decide
 have q1 : (i : Int) < l.length:=by omega
 have q2 : ¬ l.length ≤ i:=by omega
 clear hi
 repeat' (first | intro (hb : _ = _) | refine ZV ?_ | refine ZB tm no_specs ?_ | refine ZH ?_ ?_ | refine ZJ (by conv=>lhs; simp [q1,q2,hl,hg,hs,oB,qB,mB,Msg.v,m1]) ?_ | refine ZA ?_ ?_)
 exact RetB.raw [0,1,176] rfl (by conv=>lhs; simp) (by decide) (by intro i hi; rcases (show i = 0 ∨ i = 1 by omega) with rfl | rfl <;> simp) (by simp [rowsQ_ren,oB,mB,qB,hmv,Msg.v,AV.ren,List.idxOf?,List.findIdx?,List.findIdx?.go]) (by simp)
def mzC : List AV := .int .i64 0 :: .int .i64 0 :: .int .i64 0 :: .int .u64 0 :: .int .i64 0 :: (zO ++ [.int .u64 0, .int .i64 0, .int .u64 0, .int .i64 0])
def mzB : ABlk := { gen := 0,kind := 2,elem := 50,size := 45,inl := false,rows := [mzC] }
def encDl (i : Nat) (d : {d : LkAt i × Msg × List Msg // d.1.1.2.q = d.2.1 :: d.2.2}) : List AV × List ABlk := ([.ptr 0 0 i 0, .ptr 1 0 0 0],[oB 0 false (rowsQ d.1.1.1.1.ls i d.1.1.1.2 (.sl 2 0 0 d.1.1.1.2.q.length)),mzB,qB 0 d.1.1.1.2.q])
noncomputable def dlvQS (i : Nat) : SpecFn := mkS2 (encDl i) fun d => (.tup [],[oB 0 false (rowsQ d.1.1.1.1.ls i d.1.1.1.2 (.sl 2 0 1 d.1.2.2.length)),mB d.1.2.1,qB 0 d.1.1.1.2.q])
theorem dlvQS_eq (i : Nat) (d : Nts) (x : Lk) (h : d.ls[i]? = some x) (m : Msg) (r : List Msg) (hq : x.q = m :: r) : dlvQS i [.ptr 0 0 i 0, .ptr 1 0 0 0] [oB 0 false (rowsQ d.ls i x (.sl 2 0 0 x.q.length)),mzB,qB 0 x.q] = some (.tup [],[oB 0 false (rowsQ d.ls i x (.sl 2 0 1 r.length)),mB m,qB 0 x.q]) :=
 mkS2_eq (enc:=encDl i) (res:=fun d=>(.tup [],[oB 0 false (rowsQ d.1.1.1.1.ls i d.1.1.1.2 (.sl 2 0 1 d.1.2.2.length)),mB d.1.2.1,qB 0 d.1.1.1.2.q])) (fun x y h=>by
   obtain ⟨⟨d,m,r⟩,hx⟩:=x
   obtain ⟨⟨d',m',r'⟩,hy⟩:=y
   simp only [encDl,oB,qB,Prod.mk.injEq,List.cons.injEq,ABlk.mk.injEq,true_and,and_true] at h
   cases rowsQ_injA h.1 h.2
   dsimp only at hx hy
   rw [hx] at hy
   cases hy
   rfl) (⟨(⟨(d,x),h⟩,m,r),hq⟩)
theorem dlvQ_ok (i : Nat) : FnC Try.prog 28 (dlvQS i) := by
 refine FnC.walkB 28 (fn:=Try.f28) Try.func28 rfl (by kernel_rfl) (fun x b hb=>by simp [encDl] at hb; rcases hb with rfl | rfl | rfl <;> rfl) fun d=>?_
 obtain ⟨⟨⟨⟨⟨l,lh,lq⟩,x⟩,hx⟩,m,r⟩,hq⟩:=d
 dsimp only at hx hq
 have hi:=(List.getElem?_eq_some_iff.1 hx).1
 have hlen : x.q.length = r.length + 1:=by rw [hq]; rfl
 have hq9 : x.q.length ≤ 9000:=lq x (List.mem_of_getElem? hx)
 change W _ (RetB _ _ 3 (.tup []) [oB 0 false (rowsQ l i x (.sl 2 0 1 r.length)),mB m,qB 0 x.q]) _ _ ⟨17,[(0, .ptr 0 0 i 0),(1, .ptr 1 0 0 0)],[(0,oB 0 false (rowsQ l i x (.sl 2 0 0 x.q.length))),(1,mzB),(2,qB 0 x.q)]⟩
 obtain ⟨R,hR,hl,hg,hs, -⟩:=rowsQ_open hi x (.sl 2 0 0 x.q.length)
 rw [hR]
 have hmv : ∀ f,renL f m.v = m.v:=fun f=>by simp [renL,Msg.v,AV.ren]
 have hm : (x.q.map Msg.v)[0]? = some m.v:=by rw [hq]; rfl
 obtain ⟨a,b,c,q⟩:=x
 obtain ⟨b1,b2,b3,b4,b5,o,b6,b7,b8,b9⟩:=m
 dsimp only at hg hs hq hlen hm hq9
 simp only [Msg.v] at hmv hm
 subst hq
 have hT : (r.map Msg.v).length = r.length:=by simp
 simp only [oB,qB,mB,mzB,mzC,Msg.v,List.map_cons]
 change (r.map Msg.v).length = r.length at hT
 generalize hTe : r.map Msg.v = T at *
 have q1 : (i : Int) < l.length:=by omega
 have q2 : ¬ l.length ≤ i:=by omega
 have y1 : r.length + 1 ≤ maxLen:=by simp only [maxLen]; omega
 have y2 : r.length ≤ 9223372036854775807:=by omega
 simp only [List.length_cons] at hg ⊢
 have hTe2 : List.map (fun a : Msg=>AV.int .i64 a.fr :: .int .i64 a.to :: .int .i64 a.kind :: .int .u64 a.id :: .int .i64 a.mode :: (a.obj.cells ++ [.int .u64 a.a, .int .i64 a.b, .int .u64 a.c, .int .i64 a.e])) r = T:=hTe
 try rw [hTe2]
 clear hi hx lq lh hm hTe hTe2
 repeat' (first | intro (hb : _ = _) | refine ZV ?_ | refine ZB tm no_specs ?_ | refine ZH ?_ ?_ | refine ZJ (by conv=>lhs; simp [q1,q2,hl,hg,hs,hT,y1,y2,zO]) ?_ | refine ZA ?_ ?_)
 exact RetB.raw [0,1,2] rfl (by conv=>lhs; simp) (by decide) (by intro i hi; rcases (show i = 0 ∨ i = 1 ∨ i = 2 by omega) with rfl | rfl | rfl <;> simp) (by simp [rowsQ_ren,oB,mB,qB,hmv,Msg.v,AV.ren,List.idxOf?,List.findIdx?,List.findIdx?.go]) (by simp)
def cB (c : Bool) : ABlk := { gen := 0,kind := 2,elem := 4,size := 1,inl := false,rows := [[.bool c]] }
def encCutQ (i : Nat) (d : LkAt i × Bool) : List AV × List ABlk := ([.ptr 0 0 i 0, .ptr 1 0 0 0],[oB 0 false (rowsQ d.1.1.1.ls i d.1.1.2 (.sl 2 0 0 d.1.1.2.q.length)),cB d.2,qB 0 d.1.1.2.q])
noncomputable def CutQS (i : Nat) : SpecFn := mkS2 (encCutQ i) fun d => (.tup [],[oB 0 false (rowsQ d.1.1.1.ls i { d.1.1.2 with cut := d.2 } (.sl 2 0 0 d.1.1.2.q.length)),cB d.2,qB 0 d.1.1.2.q])
theorem CutQS_eq (i : Nat) (d : Nts) (x : Lk) (h : d.ls[i]? = some x) (c : Bool) : CutQS i [.ptr 0 0 i 0, .ptr 1 0 0 0] [oB 0 false (rowsQ d.ls i x (.sl 2 0 0 x.q.length)),cB c,qB 0 x.q] = some (.tup [],[oB 0 false (rowsQ d.ls i { x with cut := c } (.sl 2 0 0 x.q.length)),cB c,qB 0 x.q]) :=
 mkS2_eq (enc:=encCutQ i) (res:=fun d=>(.tup [],[oB 0 false (rowsQ d.1.1.1.ls i { d.1.1.2 with cut:=d.2 } (.sl 2 0 0 d.1.1.2.q.length)),cB d.2,qB 0 d.1.1.2.q])) (fun x y h=>by
   obtain ⟨d,c⟩:=x
   obtain ⟨d',c'⟩:=y
   simp only [encCutQ,oB,qB,cB,Prod.mk.injEq,List.cons.injEq,ABlk.mk.injEq,AV.bool.injEq,true_and,and_true] at h
   obtain ⟨h1,rfl,h2⟩:=h
   cases rowsQ_injA h1 h2
   rfl) (⟨(d,x),h⟩,c)
theorem CutQ_ok (i : Nat) : FnC Try.prog 30 (CutQS i) := by
 refine FnC.walkB 30 (fn:=Try.f30) Try.func30 rfl (by kernel_rfl) (fun x b hb=>by simp [encCutQ] at hb; rcases hb with rfl | rfl | rfl <;> rfl) fun d=>?_
 obtain ⟨⟨⟨⟨l,lh,lq⟩,x⟩,hx⟩,c⟩:=d
 dsimp only at hx
 have hi:=(List.getElem?_eq_some_iff.1 hx).1
 change W _ (RetB _ _ 3 (.tup []) [oB 0 false (rowsQ l i { x with cut:=c } (.sl 2 0 0 x.q.length)),cB c,qB 0 x.q]) _ _ ⟨7,[(0, .ptr 0 0 i 0),(1, .ptr 1 0 0 0)],[(0,oB 0 false (rowsQ l i x (.sl 2 0 0 x.q.length))),(1,cB c),(2,qB 0 x.q)]⟩
 obtain ⟨R,hR,hl,hg, -,hs⟩:=rowsQ_open hi x (.sl 2 0 0 x.q.length)
 rw [hR]
 obtain ⟨a,b,c0,q⟩:=x
 dsimp only at hg hs
 have q1 : (i : Int) < l.length:=by omega
 have q2 : ¬ l.length ≤ i:=by omega
 clear hi
 repeat' (first | intro (hb : _ = _) | refine ZV ?_ | refine ZB tm no_specs ?_ | refine ZH ?_ ?_ | refine ZJ (by conv=>lhs; simp [q1,q2,hl,hg,hs,oB,qB,cB]) ?_ | refine ZA ?_ ?_)
 exact RetB.raw [0,1,2] rfl (by conv=>lhs; simp) (by decide) (by intro i hi; rcases (show i = 0 ∨ i = 1 ∨ i = 2 by omega) with rfl | rfl | rfl <;> simp) (by simp [rowsQ_ren,oB,cB,qB,AV.ren,renL,List.idxOf?,List.findIdx?,List.findIdx?.go]) (by simp)
def encCutN (i : Nat) (d : {l : List Lk // i < l.length} × (Lk × Bool)) : List AV × List ABlk := ([.ptr 0 0 i 0, .ptr 1 0 0 0],[oB 0 false (rowsQ d.1.1 i d.2.1 .nils),cB d.2.2])
noncomputable def CutNS (i : Nat) : SpecFn := mkS2 (encCutN i) fun d => (.tup [],[oB 0 false (rowsQ d.1.1 i { d.2.1 with cut := d.2.2 } .nils),cB d.2.2])
theorem CutNS_eq (i : Nat) (l : List Lk) (h : i < l.length) (x : Lk) (c : Bool) : CutNS i [.ptr 0 0 i 0, .ptr 1 0 0 0] [oB 0 false (rowsQ l i x .nils),cB c] = some (.tup [],[oB 0 false (rowsQ l i { x with cut := c } .nils),cB c]) :=
 mkS2_eq (enc:=encCutN i) (res:=fun d=>(.tup [],[oB 0 false (rowsQ d.1.1 i { d.2.1 with cut:=d.2.2 } .nils),cB d.2.2])) (fun x y h=>by
   obtain ⟨⟨l,hl⟩,x,c⟩:=x
   obtain ⟨⟨l',hl'⟩,x',c'⟩:=y
   simp only [encCutN,oB,cB,Prod.mk.injEq,List.cons.injEq,ABlk.mk.injEq,AV.bool.injEq,true_and,and_true] at h
   obtain ⟨h1,rfl⟩:=h
   dsimp only
   obtain ⟨_,e1,e2,e3⟩:=rowsQ_chg hl hl' h1 .nils
   have e4 : rowsQ l i { x with cut:=c } .nils = rowsQ l' i { x' with cut:=c } .nils:=by
     rw [← rowsQ_set l i x { x with cut:=c } .nils .nils,h1, ← rowsQ_set l' i x' { x' with cut:=c } .nils .nils]
     simp only [rowQ,e1,e2]
   rw [e4]) (⟨l,h⟩,x,c)
theorem CutN_ok (i : Nat) : FnC Try.prog 30 (CutNS i) := by
 refine FnC.walkB 30 (fn:=Try.f30) Try.func30 rfl (by kernel_rfl) (fun x b hb=>by simp [encCutN] at hb; rcases hb with rfl | rfl <;> rfl) fun d=>?_
 obtain ⟨⟨l,hi⟩,x,c⟩:=d
 change W _ (RetB _ _ 2 (.tup []) [oB 0 false (rowsQ l i { x with cut:=c } .nils),cB c]) _ _ ⟨7,[(0, .ptr 0 0 i 0),(1, .ptr 1 0 0 0)],[(0,oB 0 false (rowsQ l i x (.nils))),(1,cB c)]⟩
 obtain ⟨R,hR,hl,hg, -,hs⟩:=rowsQ_open hi x (.nils)
 rw [hR]
 obtain ⟨a,b,c0,q⟩:=x
 dsimp only at hg hs
 have q1 : (i : Int) < l.length:=by omega
 have q2 : ¬ l.length ≤ i:=by omega
 clear hi
 repeat' (first | intro (hb : _ = _) | refine ZV ?_ | refine ZB tm no_specs ?_ | refine ZH ?_ ?_ | refine ZJ (by conv=>lhs; simp [q1,q2,hl,hg,hs,oB,qB,cB]) ?_ | refine ZA ?_ ?_)
 exact RetB.raw [0,1] rfl (by conv=>lhs; simp) (by decide) (by intro i hi; rcases (show i = 0 ∨ i = 1 by omega) with rfl | rfl <;> simp) (by simp [rowsQ_ren,oB,cB,qB,AV.ren,renL,List.idxOf?,List.findIdx?,List.findIdx?.go]) (by simp)
def encF1 (i : Nat) (d : LkAt i) : List AV × List ABlk := ([.ptr 0 0 i 0],[oB 0 false (rowsQ d.1.1.ls i d.1.2 (.sl 1 0 0 d.1.2.q.length)),qB 0 d.1.2.q])
noncomputable def fgtQS (i : Nat) : SpecFn := mkS2 (encF1 i) fun d => (.tup [],[oB 0 false (rowsQ d.1.1.ls i d.1.2 .nils),qB 0 d.1.2.q])
end
section
attribute [local simp] instA slice3A slice3C
attribute [-simp] mkv
attribute [local simp] mkv_hd hdA_cons hdA_ob hdA_ob'
theorem delete59_ok : FnC Try.prog 59 (deleteC 74 4) := by
 refine FnC.ofV 59 (fn:=Try.f59) Try.func59 rfl (by kernel_rfl) fun args B r B' hS=>?_
 unfold deleteC at hS
 split at hS
 · rename_i len i j b
   split at hS
   · rename_i hc
     obtain ⟨hb,rfl,h1,h2,h3,h4⟩:=hc
     simp only [Option.some.injEq,Prod.mk.injEq] at hS
     obtain ⟨rfl,rfl⟩:=hS
     rw [okB_eq hb]
     generalize b.rows = rows at h1 h2 h3 h4 ⊢
     obtain ⟨i,rfl⟩ : ∃ n : Nat,i = n:=⟨i.toNat,by omega⟩
     obtain ⟨j,rfl⟩ : ∃ n : Nat,j = n:=⟨j.toNat,by omega⟩
     have h3' : i < j:=by omega
     have h4' : j ≤ rows.length:=by omega
     simp only [Int.toNat_natCast]
     refine ⟨by simp, ?_⟩
     change V _ (RetM _ _ 1 _ _) _ _ ⟨33,[(0, .sl 0 0 0 rows.length),(1, .int .i64 (i : Nat)),(2, .int .i64 (j : Nat))],[(0, { gen:=0,kind:=2,elem:=74,size:=4,inl:=true,rows })]⟩
     have e1 : ((i : Int) == (j : Int)) = false:=by simpa using fun h=>by omega
     have hij : i ≤ j:=by omega
     have hl : rows.length ≤ 9223372036854775807:=by omega
     repeat (first | refine NV.seq ?_ | refine NV.blk ?_ | refine V.seq rfl ?_ | refine V.block rfl ?_ | refine V.skip rfl ?_ | refine V.ret rfl ?_ | refine NV.nil ?_ | refine NV.loop ?_ | refine V.exit rfl ?_ | refine XV.seq ?_ | refine XV.loop ?_ | refine XV.hit ?_ | refine XV.pass (by decide) ?_)
     refine V.region tm no_specs rfl (by conv=>lhs; simp) fun _=>?_
     repeat (first | refine NV.seq ?_ | refine NV.blk ?_ | refine V.seq rfl ?_ | refine V.block rfl ?_ | refine V.skip rfl ?_ | refine V.ret rfl ?_ | refine NV.nil ?_ | refine NV.loop ?_ | refine V.exit rfl ?_ | refine XV.seq ?_ | refine XV.loop ?_ | refine XV.hit ?_ | refine XV.pass (by decide) ?_)
     refine V.region tm no_specs rfl (by conv=>lhs; simp [h1,h2,h3',h4',hij,hl,maxLen]) fun _=>?_
     repeat (first | refine NV.seq ?_ | refine NV.blk ?_ | refine V.seq rfl ?_ | refine V.block rfl ?_ | refine V.skip rfl ?_ | refine V.ret rfl ?_ | refine NV.nil ?_ | refine NV.loop ?_ | refine V.exit rfl ?_ | refine XV.seq ?_ | refine XV.loop ?_ | refine XV.hit ?_ | refine XV.pass (by decide) ?_)
     refine V.caps (t:=0) rfl rfl rfl fun cap hc1 hc2=>?_
     have n1 : j ≤ cap:=by omega
     have n2 : i ≤ rows.length:=by omega
     have n3 : i ≤ cap:=by omega
     have n4 : j + (rows.length - j) ≤ rows.length:=by omega
     have n5 : i + (rows.length - j) ≤ cap:=by omega
     have n6 : i + (rows.length - j) ≤ rows.length:=by omega
     obtain ⟨m,hm⟩ : ∃ m : Nat,i + (rows.length - j) = m:=⟨_,rfl⟩
     rw [hm] at n5 n6 ⊢
     have n7 : m ≤ 9223372036854775807:=by omega
     have n8 : m ≤ i + (rows.length - j + (rows.length - m)):=by omega
     repeat (first | refine YU ?_ | refine V.region tm no_specs rfl (by conv=>lhs; simp [e1,h3',h4',hij,hl,hc1,hc2,n1,n2,n3,n4,n5,n6,maxLen,hm,n7,n8]) fun _=>?_ | refine YL tm no_specs rfl (by conv=>lhs; simp [e1,h3',h4',hij,hl,hc1,hc2,n1,n2,n3,n4,n5,n6,maxLen,hm,n7,n8]) fun _=>?_)
     refine V.uncap (t:=6) rfl ?_
     refine V.shrink (t:=6) rfl rfl rfl rfl ?_
     repeat (first | refine YS ?_ | refine V.region tm no_specs rfl (by conv=>lhs; simp) fun _=>?_ | refine YL tm no_specs rfl (by conv=>lhs; simp) fun _=>?_)
     refine retM2_ok false [0] [1] ?_
     simp [retM2,movedOK,oldOK,frqT,frqV,frqVs,frqL,frq1,expG,expB3,renB,AV.ren,renL,List.range,List.range.loop,resVs,resV,pack,List.zipWith,List.idxOf?,List.findIdx?,List.findIdx?.go,rowB,delete_rows h3' h4' hm]
   · cases hS
 · cases hS
theorem ovlB58 : ovlB Try.prog 84 = true := by kernel_rfl
theorem ovlT58 : ovlT Try.prog 84 = some (24,4) := by kernel_rfl
theorem ins_grow58 {α : Type} {l : List α} {n i : Nat} {t z : α} (hn : l.length = n) (hi : i ≤ l.length) :
   List.take (i + 1) (List.take i l ++ t :: List.replicate (n - i) z) ++ (List.take (n - i) (List.take (n - i) (List.drop i l)) ++ List.drop (i + 1 + (n - i)) (List.take i l ++ t :: List.replicate (n - i) z)) = List.take i l ++ t :: List.drop i l:=by
 subst hn
 have h1 : (List.take i l).length = i:=by rw [List.length_take]; omega
 have h2 : (List.drop i l).length = l.length - i:=List.length_drop
 generalize List.take i l = A at h1 ⊢
 generalize List.drop i l = B at h2 ⊢
 subst h1
 rw [List.take_append,List.drop_append,List.take_of_length_le (Nat.le_succ _),show A.length + 1 - A.length = 1 from by omega,List.take_succ_cons,List.take_zero,
   List.drop_of_length_le (by omega),List.nil_append,show A.length + 1 + (l.length - A.length) - A.length = (l.length - A.length) + 1 from by omega,List.drop_succ_cons,List.drop_of_length_le (by simp),
   List.append_nil,List.take_take,Nat.min_self,List.take_of_length_le (by omega),List.append_assoc]
 rfl
theorem ins_place58 {α : Type} {l : List α} {i : Nat} {X : List α} (hi : i ≤ l.length) : List.take i (List.take (i + 1) l ++ List.drop i l) ++ X = List.take i l ++ X := by
 congr 1
 rw [List.take_append,List.take_take,Nat.min_eq_left (Nat.le_succ i),show i - (List.take (i + 1) l).length = 0 from by rw [List.length_take]; omega,List.take_zero,List.append_nil]
theorem insert58_ok : FnC Try.prog 58 (insertC 74 4 48) := by
 refine FnC.ofV 58 (fn:=Try.f58) Try.func58 rfl (by kernel_rfl) fun args B r B' hS=>?_
 unfold insertC at hS
 split at hS
 · rename_i len i b c
   split at hS
   · rename_i hc
     obtain ⟨hb,hcc,rfl,k1,k2,k3,k4,k5⟩:=hc
     simp only [Option.some.injEq,Prod.mk.injEq] at hS
     obtain ⟨rfl,rfl⟩:=hS
     rw [okB_eq hb,okB_eq hcc]
     generalize b.rows = l at k2 k3 k5 ⊢
     generalize c.rows = cr at k1 ⊢
     obtain ⟨t,rfl⟩ : ∃ t,cr = [t]:=List.length_eq_one_iff.1 k1
     obtain ⟨i,rfl⟩ : ∃ n : Nat,i = n:=⟨i.toNat,by omega⟩
     have hi : i ≤ l.length:=by omega
     simp only [Int.toNat_natCast]
     refine ⟨by simp, ?_⟩
     change V _ (RetM _ _ 2 _ _) _ _ ⟨95,[(0, .sl 0 0 0 l.length),(1, .int .i64 (i : Nat)),(2, .sl 1 0 0 1)],[(0, { gen:=0,kind:=2,elem:=74,size:=4,inl:=true,rows:=l }),(1, { gen:=0,kind:=2,elem:=74,size:=4,inl:=true,rows:=[t] })]⟩
     have c1 : l.length + 1 ≤ 9223372036854775807:=by omega
     have c2 : l.length ≤ 9223372036854775807:=by omega
     have c3 : l.length * 48 ≤ 140737488355328:=by omega
     have c4 : (l.length + 1) * 48 ≤ 140737488355328:=k2
     have m1' : (1 : Nat) ≤ maxLen:=by decide
     try simp only [Nat.mul_one] at c3 c4
     by_cases hin : i = l.length
     · subst hin
       clear hi k3 k4 k5 k2
       repeat (first | refine YS ?_ | refine V.region tm no_specs rfl (by conv=>lhs; simp [c1,c2,c3,c4,maxLen,m1']) fun _=>?_ | refine YL tm no_specs rfl (by conv=>lhs; simp [c1,c2,c3,c4,maxLen,m1']) fun _=>?_)
       refine retM2_ok false [0,1] [1,0] ?_
       simp [retM2,movedOK,oldOK,frqT,frqV,frqVs,frqL,frq1,expG,expB3,renB,AV.ren,renL,List.range,List.range.loop,resVs,resV,pack,List.zipWith,List.idxOf?,List.findIdx?,List.findIdx?.go,rowB]
     · have hlt : i < l.length:=by omega
       have e1 : ((i : Int) == (l.length : Int)) = false:=by simpa using fun h=>hin (by omega)
       refine V.caps (t:=0) rfl rfl rfl fun cap hc1 hc2=>?_
       have hic : i ≤ cap:=by omega
       have hwi : IntKind.i64.wrap ((i : Int) + 1) = ((i + 1 : Nat) : Int):=by rw [show (i : Int) + 1 = ((i + 1 : Nat) : Int) from by omega]; exact w64 (by omega) (by omega)
       have hw : IntKind.i64.wrap ((l.length : Int) + 1) = (l.length : Int) + 1:=w64 (by omega) (by omega)
       have hw2 : IntKind.i64.wrap ((l.length : Int) + 1 - i) = ((l.length + 1 - i : Nat) : Int):=by rw [show (l.length : Int) + 1 - i = ((l.length + 1 - i : Nat) : Int) from by omega]; exact w64 (by omega) (by omega)
       by_cases hcap : cap < l.length + 1
       · have hcap' : (cap : Int) < l.length + 1:=by omega
         have n1 : i + (l.length + 1 - i) = l.length + 1:=by omega
         have n3 : i ≤ l.length + 1:=by omega
         have n4 : 0 < l.length + 1 - i:=by omega
         have n5 : min i l.length = i:=by omega
         have n6 : List.take (l.length + 1 - i) [t] = [t]:=List.take_of_length_le (by simp; omega)
         have n7 : min (l.length + 1 - i) 1 = 1:=by omega
         have n8 : ∀ z,List.drop (i + 1) (List.take i l ++ List.replicate (l.length + 1 - i) z) = List.replicate (l.length - i) z:=fun z=>by
           rw [List.drop_append,List.drop_of_length_le (by simp; omega)]
           simp only [List.length_take,n5,List.nil_append,List.drop_replicate]
           congr 1
           omega
         have n9 : l.length ≤ i + (l.length - i):=by omega
         have n10 : (0 : Int) ≤ (i : Int) + 1:=by omega
         clear k3 k4 k5 k2 hin
         repeat (first | refine YS ?_ | refine V.region tm no_specs rfl (by conv=>lhs; simp [c1,c2,c3,c4,maxLen,e1,hi,hc1,hic,hcap,hcap',hw,hw2,n1,n3,n4,n5,n6,n7,n8,hwi,n9,n10]) fun _=>?_ | refine YL tm no_specs rfl (by conv=>lhs; simp [c1,c2,c3,c4,maxLen,e1,hi,hc1,hic,hcap,hcap',hw,hw2,n1,n3,n4,n5,n6,n7,n8,hwi,n9,n10]) fun _=>?_)
         refine retM2_ok false [656,1] [1,0] ?_
         simp [retM2,movedOK,oldOK,frqT,frqV,frqVs,frqL,frq1,expG,expB3,renB,AV.ren,renL,List.range,List.range.loop,resVs,resV,pack,List.zipWith,List.idxOf?,List.findIdx?,List.findIdx?.go,rowB]
         exact ins_grow58 (by simp) (by simpa using hi)
       · have hcap' : ¬ (cap : Int) < l.length + 1:=by omega
         have hcap2 : l.length + 1 ≤ cap:=by omega
         have n3 : i ≤ l.length + 1:=by omega
         have n9 : l.length ≤ i + (l.length - i):=by omega
         have n10 : (0 : Int) ≤ (i : Int) + 1:=by omega
         have hw3 : (0 : Int) ≤ (l.length : Int) + 1:=by omega
         have n12 : i + 1 ≤ l.length:=hlt
         have n11 : min (l.length - i) (l.length + 1 - i) = l.length - i:=by omega
         have n6 : List.take (l.length + 1 - i) [t] = [t]:=List.take_of_length_le (by simp; omega)
         have n7 : min (l.length + 1 - i) 1 = 1:=by omega
         have n13 : List.take (l.length - i) (List.take (l.length - i) (List.drop i l)) = List.drop i l:=by
           rw [List.take_take,Nat.min_self,List.take_of_length_le (by simp)]
         have n14 : List.drop (i + 1 + (l.length - i)) l = []:=List.drop_of_length_le (by omega)
         have n15 : i ≤ i + 1 + (l.length - i):=by omega
         clear k3 k4 k5 k2 hin
         repeat (first | refine YU ?_ | refine V.region tm no_specs rfl (by conv=>lhs; simp [c1,c2,c3,c4,maxLen,e1,hi,hc1,hic,hcap,hcap',hw,hw2,n3,hwi,n9,n10,hcap2,hw3,ovlB58,ovlT58,n11,n12,n6,n7,n13,n14,n15]) fun _=>?_ | refine YL tm no_specs rfl (by conv=>lhs; simp [c1,c2,c3,c4,maxLen,e1,hi,hc1,hic,hcap,hcap',hw,hw2,n3,hwi,n9,n10,hcap2,hw3,ovlB58,ovlT58,n11,n12,n6,n7,n13,n14,n15]) fun _=>?_)
         refine V.uncap (t:=6) rfl ?_
         repeat (first | refine YS ?_ | refine V.region tm no_specs rfl (by conv=>lhs; simp) fun _=>?_ | refine YL tm no_specs rfl (by conv=>lhs; simp) fun _=>?_)
         refine retM2_ok false [0,1] [1,0] ?_
         simp [retM2,movedOK,oldOK,frqT,frqV,frqVs,frqL,frq1,expG,expB3,renB,AV.ren,renL,List.range,List.range.loop,resVs,resV,pack,List.zipWith,List.idxOf?,List.findIdx?,List.findIdx?.go,rowB]
         simpa using ins_place58 (l:=l) (i:=i) (X:=[]) hi
   · cases hS
 · cases hS
def chgR (l : List Lk) (p : Nat) (x : Lk) : List Lk := if (!x.cut && x.q.isEmpty) = true then l.take p ++ l.drop (p + 1) else l.set p x
theorem rowsQ_data (l : List Lk) (i : Nat) (x y : Lk) (h1 : x.fr = y.fr) (h2 : x.to = y.to) (h3 : x.cut = y.cut) : rowsQ l i x (.list 45 (y.q.map Msg.v)) = (l.set i y).map lkC := by
 unfold rowsQ
 rw [List.map_set]
 congr 1
 simp only [rowQ,lkC,h1,h2,h3]
theorem uL : Try.prog.underlying 24 = some (.slice 74) := by kernel_rfl
theorem ntsLeafs : leafs Try.prog 26 = [24] := lf26
theorem delL (l : List Lk) (p : Nat) (hp : p < l.length) (lh : l.length ≤ 9001) : deleteC 74 4 [.sl 0 0 0 l.length, .int .i64 p, .int .i64 ((p : Int) + 1)] [{ gen := 0,kind := 2,elem := 74,size := 4,inl := true,rows := l.map lkC }] = some (.sl 0 1 0 (l.take p ++ l.drop (p + 1)).length,[{ gen := 1,kind := 2,elem := 74,size := 4,inl := true,rows := (l.take p ++ l.drop (p + 1)).map lkC }]) := by
 have e1 : l.length ≤ 1000000:=by omega
 have e2 : (p : Int) < (p : Int) + 1:=by omega
 have e3 : (p : Int) + 1 ≤ (l.length : Int):=by omega
 have e6 : ((p : Int) + 1).toNat = p + 1:=by omega
 have e4 : (0 : Int) ≤ (p : Int):=by omega
 have e5 : p + (l.length - (p + 1)) = (l.take p ++ l.drop (p + 1)).length:=by simp; omega
 have ok : okB 74 4 { gen:=0,kind:=2,elem:=74,size:=4,inl:=true,rows:=l.map lkC } = true:=by simp [okB]
 simp only [deleteC,List.length_map,ok,e1,e2,e3,e4,and_self,if_true,Int.toNat_natCast,e6,e5,rowB,List.map_append,List.map_take,List.map_drop]
theorem refsL_msg (m : Msg) : refsL m.v = [] := by simp [refsL,Msg.v,AV.refs]
theorem renL_msg (f : Nat → Nat → Option (Nat × Nat)) (m : Msg) : renL f m.v = m.v := by simp [renL,Msg.v,AV.ren]
theorem inl_lks (l : List Lk) : (l.map lkC).all (fun r => r.all AV.isInl) = true := by
 rw [List.all_eq_true]
 intro r hr
 obtain ⟨x,_,rfl⟩:=List.mem_map.1 hr
 simp [lkC,AV.isInl]
theorem lks_nrm (l : List Lk) : nrmR Try.prog [26] (.agg [.list 4 (l.map lkC)]) = .agg [.list 4 (l.map lkC)] := by
 simp only [nrmR,nrmV,ntsLeafs,nrmL,uL,nrmRows_map lkC_nrm]
attribute [-simp] Msg.v
theorem rowsQ_nrm (l : List Lk) (i : Nat) (x y : Lk) (h1 : x.fr = y.fr) (h2 : x.to = y.to) (h3 : x.cut = y.cut) (h4 : y.q = []) : (rowsQ l i x .nils).map (nrmL Try.prog (leafs Try.prog 74)) = (l.set i y).map lkC := by
 unfold rowsQ
 rw [List.map_set,List.map_set,List.map_map]
 have e1 : nrmL Try.prog (leafs Try.prog 74) (rowQ x .nils) = lkC y:=by
   rw [show rowQ x .nils = [.int .i64 x.fr, .int .i64 x.to, .bool x.cut, .nils] from rfl,lkC_nrm0,h1,h2,h3]
   obtain ⟨a,b,c,q⟩:=y
   dsimp only at h4
   rw [h4]
 rw [e1]
 congr 1
 apply List.map_congr_left
 intro z _
 exact lkC_nrm z
theorem refsL_mz : refsL mzC = [] := by simp [refsL,mzC,zO,AV.refs]
theorem renL_mz (f : Nat → Nat → Option (Nat × Nat)) : renL f mzC = mzC := by simp [renL,mzC,zO,AV.ren]
noncomputable def chSQ_sp (p : Nat) : NL Spec := [(31,⟨3,cpqS p⟩),(52,⟨3,bsqS p⟩),(27,⟨3,sndQS p⟩),(59,⟨3,deleteC 74 4⟩)]
theorem chSQ_sp_ok (p : Nat) : ∀ q ∈ chSQ_sp p,FnC Try.prog q.1 q.2.fn := by
 simp only [chSQ_sp,List.mem_cons,List.not_mem_nil,or_false]
 rintro q (rfl | rfl | rfl | rfl)
 · exact cpq_ok p
 · exact bsq_ok p
 · exact sndQ_ok p
 · exact delete59_ok
attribute [local simp] chSQ_sp
theorem chSQ_w (l : List Lk) (lh : l.length ≤ 8999) (lq : ∀ x ∈ l,okK x) (f t : Int) (p : Nat) (hp : bsN l f t = p) (x : Lk) (hx : l[p]? = some x) (hh : hasN l p f t = true) (m : Msg) (y : Lk) (hy : y = { x with q := x.q ++ [m] }) : W Try.prog (RetBN Try.prog Try.f26 [26] 1 (.agg [.list 4 ((chgR l p y).map lkC)]) [mB m]) (codeOf Try.f26) [] ⟨59,[(0, .agg [.list 4 (l.map lkC)]),(1, .int .i64 f),(2, .int .i64 t),(3, .fn (.func 27) [] [.ptr 0 0 0 0])],[(0,mB m)]⟩ := by
 have lh' : l.length ≤ 9000:=by omega
 have hi:=(List.getElem?_eq_some_iff.1 hx).1
 have cc:=cpqS_eq p ⟨l,lh',lq⟩ x hx
 have cb:=bsqS_eq p ⟨l,lh',lq⟩ x hx f t
 have cs:=sndQS_eq p ⟨l,lh',lq⟩ x hx m
 dsimp only at cc cb cs
 rw [hp,hh] at cb
 have hq9 : x.q.length ≤ 9000:=lq x (List.mem_of_getElem? hx)
 have hr:=fun a=>rowsQ_refs hi x a
 have rr:=fun a=>rowsQ_len' l p x a
 have q1 : (p : Int) < l.length:=by omega
 have q2 : ¬ l.length ≤ p:=by omega
 change cpqS p [.list 4 (l.map lkC)] [] = some (.sl 0 0 0 l.length,[oB 0 false (rowsQ l p x (.sl 1 0 0 x.q.length)),qB 0 x.q]) at cc
 have sp:=chSQ_sp_ok p
 have e1 : x.fr = y.fr:=by rw [hy]
 have e2 : x.to = y.to:=by rw [hy]
 have e3 : x.cut = y.cut:=by rw [hy]
 have e4 : x.q ++ [m] = y.q:=by rw [hy]
 have e5 : x.q.length + 1 = y.q.length:=by rw [← e4]; simp
 rw [e4,e5] at cs
 clear hy e4
 have rfm:=refsL_msg m
 have rnm:=fun f=>renL_msg f m
 simp only [oB,qB,mB,cB,mzB] at cc cb cs ⊢
 generalize m.v = mv at *
 repeat' (first | intro (hb : _ = _) | refine ZV ?_ | refine ZB (id:=0) tm sp ?_ | refine ZB (id:=1) tm sp ?_ | refine ZB (id:=2) tm sp ?_ | refine ZB (id:=3) tm sp ?_ | refine ZB (id:=4) tm sp ?_ | refine ZB (id:=5) tm sp ?_ | refine ZH ?_ ?_ | refine ZJ (by conv=>lhs; simp [cc,cb,cs,hr,rr,q1,q2,rowsQ_ren,rfm,rnm]) ?_ | refine ZA ?_ ?_)
 have capy : y.q.length ≤ 9223372036854775807:=by omega
 have tk : List.take y.q.length (y.q.map Msg.v) = y.q.map Msg.v:=List.take_of_length_le (by simp)
 refine W.frzC 240 p 3 rfl rfl rfl (rowsQ_at hi x _) rfl (by conv=>lhs; simp [frqT,frqV,frqVs,frqL,frq1,frz1,tk]) rfl ?_
 rw [show (rowQ x (.sl 241 2 0 y.q.length)).set 3 (.list 45 (y.q.map Msg.v)) = rowQ x (.list 45 (y.q.map Msg.v)) from rfl]
 rw [rowsQ_set,rowsQ_data l p x y e1 e2 e3]
 refine W.setI 240 true rfl rfl (fun _=>inl_lks _) ?_
 have hL : (l.set p y).length = l.length:=by simp
 have hm : (l.set p y)[p]? = some y:=List.getElem?_set_self hi
 obtain ⟨R,hR⟩ : ∃ R,chgR l p y = R:=⟨_,rfl⟩
 have hR2 : R = if (!y.cut && y.q.isEmpty) = true then (l.set p y).take p ++ (l.set p y).drop (p + 1) else l.set p y:=by
   rw [← hR,chgR]
   split
   · rw [List.take_set_of_le (Nat.le_refl _),List.drop_set_of_lt (by omega)]
   · rfl
 rw [hR]
 generalize l.set p y = LL at *
 have cd:=delL LL p (by omega) (by omega)
 have hmm : (LL.map lkC)[p]? = some (lkC y):=by rw [List.getElem?_map,hm]; rfl
 have hw : IntKind.i64.wrap ((p : Int) + 1) = (p : Int) + 1:=w64 (by omega) (by omega)
 rw [hL] at cd
 obtain ⟨yf,yt,yc,yq⟩:=y
 simp only [lkC] at hmm
 clear hr rr hi hR hm
 cases yc with
 | true =>
   rw [if_neg (by simp)] at hR2
   subst hR2
   have tkR : List.take l.length (R.map lkC) = R.map lkC:=List.take_of_length_le (by simp [hL])
   repeat' (first | intro (hb : _ = _) | refine ZV ?_ | refine ZB tm sp ?_ | refine ZH ?_ ?_ | refine ZJ (by conv=>lhs; simp [q1,q2,hmm,hL]) ?_ | refine ZA ?_ ?_)
   refine RetBN.dataE true [0] rfl (by conv=>lhs; simp) (by conv=>lhs; simp [tkR,hL,frqT,frqV,frqVs,frqL,frq1]) (by decide) (by rintro j hj; rcases (show j = 0 by omega) with rfl; exact ⟨rfl,rfl⟩) (by simp [rnm]) (by conv=>lhs; simp) (lks_nrm R)
 | false =>
   cases yq with
   | nil =>
     rw [if_pos (by simp)] at hR2
     rw [← hR2] at cd
     have tkR2 : List.take R.length (R.map lkC) = R.map lkC:=List.take_of_length_le (by simp)
     repeat' (first | intro (hb : _ = _) | refine ZV ?_ | refine ZB tm sp ?_ | refine ZH ?_ ?_ | refine ZJ (by conv=>lhs; simp [q1,q2,hmm,hL,cd,hw]) ?_ | refine ZA ?_ ?_)
     refine RetBN.dataE true [0] rfl (by conv=>lhs; simp) (by conv=>lhs; simp [tkR2,hL,frqT,frqV,frqVs,frqL,frq1]) (by decide) (by rintro j hj; rcases (show j = 0 by omega) with rfl; exact ⟨rfl,rfl⟩) (by simp [rnm]) (by conv=>lhs; simp) (lks_nrm R)
   | cons m1 r1 =>
     rw [if_neg (by simp)] at hR2
     subst hR2
     have tkR : List.take l.length (R.map lkC) = R.map lkC:=List.take_of_length_le (by simp [hL])
     have h0 : (((m1 :: r1).length : Int) == 0) = false:=by simp; omega
     generalize m1 :: r1 = yq at *
     repeat' (first | intro (hb : _ = _) | refine ZV ?_ | refine ZB tm sp ?_ | refine ZH ?_ ?_ | refine ZJ (by conv=>lhs; simp [q1,q2,hmm,hL,h0,capy]) ?_ | refine ZA ?_ ?_)
     refine RetBN.dataE true [0] rfl (by conv=>lhs; simp) (by conv=>lhs; simp [tkR,hL,frqT,frqV,frqVs,frqL,frq1]) (by decide) (by rintro j hj; rcases (show j = 0 by omega) with rfl; exact ⟨rfl,rfl⟩) (by simp [rnm]) (by conv=>lhs; simp) (lks_nrm R)
noncomputable def chDQ_sp (p : Nat) : NL Spec := [(31,⟨3,cpqS p⟩),(52,⟨3,bsqS p⟩),(28,⟨3,dlvQS p⟩),(59,⟨3,deleteC 74 4⟩)]
theorem chDQ_sp_ok (p : Nat) : ∀ q ∈ chDQ_sp p,FnC Try.prog q.1 q.2.fn := by
 simp only [chDQ_sp,List.mem_cons,List.not_mem_nil,or_false]
 rintro q (rfl | rfl | rfl | rfl)
 · exact cpq_ok p
 · exact bsq_ok p
 · exact dlvQ_ok p
 · exact delete59_ok
attribute [local simp] chDQ_sp
theorem chDQ_w (l : List Lk) (lh : l.length ≤ 8999) (lq : ∀ x ∈ l,okK x) (f t : Int) (p : Nat) (hp : bsN l f t = p) (x : Lk) (hx : l[p]? = some x) (hh : hasN l p f t = true) (m : Msg) (r : List Msg) (hxq : x.q = m :: r) (y : Lk) (hy : y = { x with q := r }) : W Try.prog (RetBN Try.prog Try.f26 [26] 1 (.agg [.list 4 ((chgR l p y).map lkC)]) [mB m]) (codeOf Try.f26) [] ⟨59,[(0, .agg [.list 4 (l.map lkC)]),(1, .int .i64 f),(2, .int .i64 t),(3, .fn (.func 28) [] [.ptr 0 0 0 0])],[(0,mzB)]⟩ := by
 have lh' : l.length ≤ 9000:=by omega
 have hi:=(List.getElem?_eq_some_iff.1 hx).1
 have cc:=cpqS_eq p ⟨l,lh',lq⟩ x hx
 have cb:=bsqS_eq p ⟨l,lh',lq⟩ x hx f t
 have cs:=dlvQS_eq p ⟨l,lh',lq⟩ x hx m r hxq
 dsimp only at cc cb cs
 rw [hp,hh] at cb
 have hq9 : x.q.length ≤ 9000:=lq x (List.mem_of_getElem? hx)
 have hr:=fun a=>rowsQ_refs hi x a
 have rr:=fun a=>rowsQ_len' l p x a
 have q1 : (p : Int) < l.length:=by omega
 have q2 : ¬ l.length ≤ p:=by omega
 change cpqS p [.list 4 (l.map lkC)] [] = some (.sl 0 0 0 l.length,[oB 0 false (rowsQ l p x (.sl 1 0 0 x.q.length)),qB 0 x.q]) at cc
 have sp:=chDQ_sp_ok p
 have e1 : x.fr = y.fr:=by rw [hy]
 have e2 : x.to = y.to:=by rw [hy]
 have e3 : x.cut = y.cut:=by rw [hy]
 have e4 : r = y.q:=by rw [hy]
 have e5 : x.q.length = y.q.length + 1:=by rw [hxq, ← e4]; rfl
 rw [e4] at cs
 have dq : (x.q.map Msg.v).tail = y.q.map Msg.v:=by rw [hxq, ← e4]; rfl
 have e7 : 1 + y.q.length ≤ y.q.length + 1:=by omega
 have hql : (x.q.map Msg.v).length = y.q.length + 1:=by simp [e5]
 clear hy e4
 change bsqS p _ [oB 0 false _, { gen:=0,kind:=2,elem:=50,size:=45,inl:=true,rows:=x.q.map Msg.v }] = some (_,[_, { gen:=0,kind:=2,elem:=50,size:=45,inl:=true,rows:=x.q.map Msg.v }]) at cb
 simp only [qB] at cc cs
 generalize x.q.map Msg.v = Qm at *
 have rfz:=refsL_mz
 have rnz:=fun f=>renL_mz f
 have rfm:=refsL_msg m
 have rnm:=fun f=>renL_msg f m
 simp only [oB,qB,mB,cB,mzB] at cc cb cs ⊢
 generalize m.v = mv at *
 repeat' (first | intro (hb : _ = _) | refine ZV ?_ | refine ZB (id:=0) tm sp ?_ | refine ZB (id:=1) tm sp ?_ | refine ZB (id:=2) tm sp ?_ | refine ZB (id:=3) tm sp ?_ | refine ZB (id:=4) tm sp ?_ | refine ZB (id:=5) tm sp ?_ | refine ZH ?_ ?_ | refine ZJ (by conv=>lhs; simp [cc,cb,cs,hr,rr,q1,q2,rowsQ_ren,rfm,rnm,rfz,rnz]) ?_ | refine ZA ?_ ?_)
 have capy : y.q.length ≤ 9223372036854775807:=by omega
 have tk : List.take y.q.length (y.q.map Msg.v) = y.q.map Msg.v:=List.take_of_length_le (by simp)
 refine W.frzC 240 p 3 rfl rfl rfl (rowsQ_at hi x _) rfl (by conv=>lhs; simp [frqT,frqV,frqVs,frqL,frq1,frz1,tk,dq,hql,e7]) rfl ?_
 rw [show (rowQ x (.sl 241 1 1 y.q.length)).set 3 (.list 45 (y.q.map Msg.v)) = rowQ x (.list 45 (y.q.map Msg.v)) from rfl]
 rw [rowsQ_set,rowsQ_data l p x y e1 e2 e3]
 refine W.setI 240 true rfl rfl (fun _=>inl_lks _) ?_
 have hL : (l.set p y).length = l.length:=by simp
 have hm : (l.set p y)[p]? = some y:=List.getElem?_set_self hi
 obtain ⟨R,hR⟩ : ∃ R,chgR l p y = R:=⟨_,rfl⟩
 have hR2 : R = if (!y.cut && y.q.isEmpty) = true then (l.set p y).take p ++ (l.set p y).drop (p + 1) else l.set p y:=by
   rw [← hR,chgR]
   split
   · rw [List.take_set_of_le (Nat.le_refl _),List.drop_set_of_lt (by omega)]
   · rfl
 rw [hR]
 generalize l.set p y = LL at *
 have cd:=delL LL p (by omega) (by omega)
 have hmm : (LL.map lkC)[p]? = some (lkC y):=by rw [List.getElem?_map,hm]; rfl
 have hw : IntKind.i64.wrap ((p : Int) + 1) = (p : Int) + 1:=w64 (by omega) (by omega)
 rw [hL] at cd
 obtain ⟨yf,yt,yc,yq⟩:=y
 simp only [lkC] at hmm
 clear hr rr hi hR hm
 cases yc with
 | true =>
   rw [if_neg (by simp)] at hR2
   subst hR2
   have tkR : List.take l.length (R.map lkC) = R.map lkC:=List.take_of_length_le (by simp [hL])
   repeat' (first | intro (hb : _ = _) | refine ZV ?_ | refine ZB tm sp ?_ | refine ZH ?_ ?_ | refine ZJ (by conv=>lhs; simp [q1,q2,hmm,hL]) ?_ | refine ZA ?_ ?_)
   refine RetBN.dataE true [0] rfl (by conv=>lhs; simp) (by conv=>lhs; simp [tkR,hL,frqT,frqV,frqVs,frqL,frq1]) (by decide) (by rintro j hj; rcases (show j = 0 by omega) with rfl; exact ⟨rfl,rfl⟩) (by simp [rnm]) (by conv=>lhs; simp) (lks_nrm R)
 | false =>
   cases yq with
   | nil =>
     rw [if_pos (by simp)] at hR2
     rw [← hR2] at cd
     have tkR2 : List.take R.length (R.map lkC) = R.map lkC:=List.take_of_length_le (by simp)
     repeat' (first | intro (hb : _ = _) | refine ZV ?_ | refine ZB tm sp ?_ | refine ZH ?_ ?_ | refine ZJ (by conv=>lhs; simp [q1,q2,hmm,hL,cd,hw]) ?_ | refine ZA ?_ ?_)
     refine RetBN.dataE true [0] rfl (by conv=>lhs; simp) (by conv=>lhs; simp [tkR2,hL,frqT,frqV,frqVs,frqL,frq1]) (by decide) (by rintro j hj; rcases (show j = 0 by omega) with rfl; exact ⟨rfl,rfl⟩) (by simp [rnm]) (by conv=>lhs; simp) (lks_nrm R)
   | cons m1 r1 =>
     rw [if_neg (by simp)] at hR2
     subst hR2
     have tkR : List.take l.length (R.map lkC) = R.map lkC:=List.take_of_length_le (by simp [hL])
     have h0 : (((m1 :: r1).length : Int) == 0) = false:=by simp; omega
     generalize m1 :: r1 = yq at *
     repeat' (first | intro (hb : _ = _) | refine ZV ?_ | refine ZB tm sp ?_ | refine ZH ?_ ?_ | refine ZJ (by conv=>lhs; simp [q1,q2,hmm,hL,h0,capy]) ?_ | refine ZA ?_ ?_)
     refine RetBN.dataE true [0] rfl (by conv=>lhs; simp) (by conv=>lhs; simp [tkR,hL,frqT,frqV,frqVs,frqL,frq1]) (by decide) (by rintro j hj; rcases (show j = 0 by omega) with rfl; exact ⟨rfl,rfl⟩) (by simp [rnm]) (by conv=>lhs; simp) (lks_nrm R)
noncomputable def chCQ_sp (p : Nat) : NL Spec := [(31,⟨3,cpqS p⟩),(52,⟨3,bsqS p⟩),(30,⟨3,CutQS p⟩),(59,⟨3,deleteC 74 4⟩)]
theorem chCQ_sp_ok (p : Nat) : ∀ q ∈ chCQ_sp p,FnC Try.prog q.1 q.2.fn := by
 simp only [chCQ_sp,List.mem_cons,List.not_mem_nil,or_false]
 rintro q (rfl | rfl | rfl | rfl)
 · exact cpq_ok p
 · exact bsq_ok p
 · exact CutQ_ok p
 · exact delete59_ok
attribute [local simp] chCQ_sp
theorem chCQ_w (l : List Lk) (lh : l.length ≤ 8999) (lq : ∀ x ∈ l,okK x) (f t : Int) (p : Nat) (hp : bsN l f t = p) (x : Lk) (hx : l[p]? = some x) (hh : hasN l p f t = true) (c : Bool) (y : Lk) (hy : y = { x with cut := c }) : W Try.prog (RetBN Try.prog Try.f26 [26] 1 (.agg [.list 4 ((chgR l p y).map lkC)]) [cB c]) (codeOf Try.f26) [] ⟨59,[(0, .agg [.list 4 (l.map lkC)]),(1, .int .i64 f),(2, .int .i64 t),(3, .fn (.func 30) [] [.ptr 0 0 0 0])],[(0,cB c)]⟩ := by
 have lh' : l.length ≤ 9000:=by omega
 have hi:=(List.getElem?_eq_some_iff.1 hx).1
 have cc:=cpqS_eq p ⟨l,lh',lq⟩ x hx
 have cb:=bsqS_eq p ⟨l,lh',lq⟩ x hx f t
 have cs:=CutQS_eq p ⟨l,lh',lq⟩ x hx c
 dsimp only at cc cb cs
 rw [hp,hh] at cb
 have hq9 : x.q.length ≤ 9000:=lq x (List.mem_of_getElem? hx)
 have hr:=fun a=>rowsQ_refs hi x a
 have rr:=fun a=>rowsQ_len' l p x a
 have q1 : (p : Int) < l.length:=by omega
 have q2 : ¬ l.length ≤ p:=by omega
 change cpqS p [.list 4 (l.map lkC)] [] = some (.sl 0 0 0 l.length,[oB 0 false (rowsQ l p x (.sl 1 0 0 x.q.length)),qB 0 x.q]) at cc
 have sp:=chCQ_sp_ok p
 have e1 : x.fr = y.fr:=by rw [hy]
 have e2 : x.to = y.to:=by rw [hy]
 have e3 : c = y.cut:=by rw [hy]
 have e4 : x.q = y.q:=by rw [hy]
 have hr2:=fun a=>rowsQ_refs hi { x with cut:=c } a
 rw [e4] at cs cc cb
 have hq9 : y.q.length ≤ 9000:=by rw [← e4]; exact hq9
 clear hy
 simp only [oB,qB,mB,cB,mzB] at cc cb cs ⊢
 repeat' (first | intro (hb : _ = _) | refine ZV ?_ | refine ZB (id:=0) tm sp ?_ | refine ZB (id:=1) tm sp ?_ | refine ZB (id:=2) tm sp ?_ | refine ZB (id:=3) tm sp ?_ | refine ZB (id:=4) tm sp ?_ | refine ZB (id:=5) tm sp ?_ | refine ZH ?_ ?_ | refine ZJ (by conv=>lhs; simp [cc,cb,cs,hr,rr,q1,q2,rowsQ_ren]) ?_ | refine ZA ?_ ?_)
 have capy : y.q.length ≤ 9223372036854775807:=by omega
 have tk : List.take y.q.length (y.q.map Msg.v) = y.q.map Msg.v:=List.take_of_length_le (by simp)
 refine W.frzC 240 p 3 rfl rfl rfl (rowsQ_at hi { x with cut:=c } _) rfl (by conv=>lhs; simp [frqT,frqV,frqVs,frqL,frq1,frz1,tk]) rfl ?_
 rw [show (rowQ { x with cut:=c } (.sl 241 1 0 y.q.length)).set 3 (.list 45 (y.q.map Msg.v)) = rowQ { x with cut:=c } (.list 45 (y.q.map Msg.v)) from rfl]
 rw [rowsQ_set,rowsQ_data l p { x with cut:=c } y e1 e2 e3]
 refine W.setI 240 true rfl rfl (fun _=>inl_lks _) ?_
 have hL : (l.set p y).length = l.length:=by simp
 have hm : (l.set p y)[p]? = some y:=List.getElem?_set_self hi
 obtain ⟨R,hR⟩ : ∃ R,chgR l p y = R:=⟨_,rfl⟩
 have hR2 : R = if (!y.cut && y.q.isEmpty) = true then (l.set p y).take p ++ (l.set p y).drop (p + 1) else l.set p y:=by
   rw [← hR,chgR]
   split
   · rw [List.take_set_of_le (Nat.le_refl _),List.drop_set_of_lt (by omega)]
   · rfl
 rw [hR]
 generalize l.set p y = LL at *
 have cd:=delL LL p (by omega) (by omega)
 have hmm : (LL.map lkC)[p]? = some (lkC y):=by rw [List.getElem?_map,hm]; rfl
 have hw : IntKind.i64.wrap ((p : Int) + 1) = (p : Int) + 1:=w64 (by omega) (by omega)
 rw [hL] at cd
 obtain ⟨yf,yt,yc,yq⟩:=y
 simp only [lkC] at hmm
 clear hr rr hi hR hm
 cases yc with
 | true =>
   rw [if_neg (by simp)] at hR2
   subst hR2
   have tkR : List.take l.length (R.map lkC) = R.map lkC:=List.take_of_length_le (by simp [hL])
   repeat' (first | intro (hb : _ = _) | refine ZV ?_ | refine ZB tm sp ?_ | refine ZH ?_ ?_ | refine ZJ (by conv=>lhs; simp [q1,q2,hmm,hL]) ?_ | refine ZA ?_ ?_)
   refine RetBN.dataE true [0] rfl (by conv=>lhs; simp) (by conv=>lhs; simp [tkR,hL,frqT,frqV,frqVs,frqL,frq1]) (by decide) (by rintro j hj; rcases (show j = 0 by omega) with rfl; exact ⟨rfl,rfl⟩) (by simp) (by conv=>lhs; simp) (lks_nrm R)
 | false =>
   cases yq with
   | nil =>
     rw [if_pos (by simp)] at hR2
     rw [← hR2] at cd
     have tkR2 : List.take R.length (R.map lkC) = R.map lkC:=List.take_of_length_le (by simp)
     repeat' (first | intro (hb : _ = _) | refine ZV ?_ | refine ZB tm sp ?_ | refine ZH ?_ ?_ | refine ZJ (by conv=>lhs; simp [q1,q2,hmm,hL,cd,hw]) ?_ | refine ZA ?_ ?_)
     refine RetBN.dataE true [0] rfl (by conv=>lhs; simp) (by conv=>lhs; simp [tkR2,hL,frqT,frqV,frqVs,frqL,frq1]) (by decide) (by rintro j hj; rcases (show j = 0 by omega) with rfl; exact ⟨rfl,rfl⟩) (by simp) (by conv=>lhs; simp) (lks_nrm R)
   | cons m1 r1 =>
     rw [if_neg (by simp)] at hR2
     subst hR2
     have tkR : List.take l.length (R.map lkC) = R.map lkC:=List.take_of_length_le (by simp [hL])
     have h0 : (((m1 :: r1).length : Int) == 0) = false:=by simp; omega
     generalize m1 :: r1 = yq at *
     repeat' (first | intro (hb : _ = _) | refine ZV ?_ | refine ZB tm sp ?_ | refine ZH ?_ ?_ | refine ZJ (by conv=>lhs; simp [q1,q2,hmm,hL,h0,capy]) ?_ | refine ZA ?_ ?_)
     refine RetBN.dataE true [0] rfl (by conv=>lhs; simp) (by conv=>lhs; simp [tkR,hL,frqT,frqV,frqVs,frqL,frq1]) (by decide) (by rintro j hj; rcases (show j = 0 by omega) with rfl; exact ⟨rfl,rfl⟩) (by simp) (by conv=>lhs; simp) (lks_nrm R)
noncomputable def chFQ_sp (p : Nat) : NL Spec := [(31,⟨3,cpqS p⟩),(52,⟨3,bsqS p⟩),(32,⟨3,fgtQS p⟩),(59,⟨3,deleteC 74 4⟩)]
attribute [local simp] chFQ_sp
noncomputable def chSN_sp (p : Nat) : NL Spec := [(31,⟨3,cpnS⟩),(52,⟨0,bsnS⟩),(27,⟨3,sndNS p⟩),(59,⟨3,deleteC 74 4⟩),(58,⟨3,insertC 74 4 48⟩)]
theorem chSN_sp_ok (p : Nat) : ∀ q ∈ chSN_sp p,FnC Try.prog q.1 q.2.fn := by
 simp only [chSN_sp,List.mem_cons,List.not_mem_nil,or_false]
 rintro q (rfl | rfl | rfl | rfl | rfl)
 · exact cpn_ok
 · exact bsn_ok
 · exact sndN_ok p
 · exact delete59_ok
 · exact insert58_ok
attribute [local simp] chSN_sp
theorem chSN_w (l : List Lk) (lh : l.length ≤ 8999) (lq : ∀ x ∈ l,okK x) (f t : Int) (p : Nat) (hp : bsN l f t = p) (hh : hasN l p f t = false) (hpl : p ≤ l.length) (x : Lk) (hx0 : x = ⟨f,t,false,[]⟩) (l1 : List Lk) (hl1 : l1 = l.take p ++ x :: l.drop p) (m : Msg) (y : Lk) (hy : y = { x with q := [m] }) : W Try.prog (RetBN Try.prog Try.f26 [26] 1 (.agg [.list 4 ((chgR l1 p y).map lkC)]) [mB m]) (codeOf Try.f26) [] ⟨59,[(0, .agg [.list 4 (l.map lkC)]),(1, .int .i64 f),(2, .int .i64 t),(3, .fn (.func 27) [] [.ptr 0 0 0 0])],[(0,mB m)]⟩ := by
 have lh' : l.length ≤ 9000:=by omega
 have hl1l : l1.length = l.length + 1:=by rw [hl1]; simp; omega
 have hi : p < l1.length:=by omega
 have cc:=cpnS_eq ⟨l,lh',lq⟩
 have cb:=bsnS_eq ⟨l,lh',lq⟩ f t
 have cs:=sndNS_eq p l1 hi x m
 dsimp only at cc cb
 rw [hp,hh] at cb
 have ci:=insD_eq 74 4 48 l.length p (l.map lkC) [.int .i64 f, .int .i64 t, .bool false, .nils] (by simp) (by omega) (by omega) hpl
 have hir : List.take p (l.map lkC) ++ [[.int .i64 f, .int .i64 t, .bool false, .nils]] ++ List.drop p (l.map lkC) = rowsQ l1 p x .nils:=by
   rw [List.append_assoc,List.singleton_append,hl1,rowsQ,List.map_append,List.map_cons,List.map_take,List.map_drop,List.set_append_right _ _ (by simp; omega)]
   have : p - (List.take p (l.map lkC)).length = 0:=by simp; omega
   rw [this,List.set_cons_zero,hx0]
   rfl
 have hr:=fun a=>rowsQ_refs hi x a
 have rr:=fun a=>rowsQ_len' l1 p x a
 have q1 : (p : Int) < l1.length:=by omega
 have q2 : ¬ l1.length ≤ p:=by omega
 have sp:=chSN_sp_ok p
 have e1 : x.fr = y.fr:=by rw [hy]
 have e2 : x.to = y.to:=by rw [hy]
 have e3 : x.cut = y.cut:=by rw [hy]
 have e4 : [m] = y.q:=by rw [hy]
 have e5 : y.q.length = 1:=by rw [← e4]; rfl
 rw [e4] at cs
 have e6 : List.take 1 (y.q.map Msg.v) = y.q.map Msg.v:=List.take_of_length_le (by simp [e5])
 clear hy e4
 have rfm:=refsL_msg m
 have rnm:=fun f=>renL_msg f m
 simp only [oB,qB,mB,cB] at cc cb cs ⊢
 generalize m.v = mv at *
 rw [hir] at ci
 have m1 : (1 : Nat) ≤ maxLen:=by decide
 have cap : l.length ≤ 9223372036854775807:=by omega
 have tk0 : List.take l.length (l.map lkC) = l.map lkC:=List.take_of_length_le (by simp)
 repeat' (first | intro (hb : _ = _) | refine ZV ?_ | refine ZB (id:=0) tm sp ?_ | refine ZB (id:=1) tm sp ?_ | refine ZB (id:=2) tm sp ?_ | refine ZB (id:=3) tm sp ?_ | refine ZB (id:=4) tm sp ?_ | refine ZH ?_ ?_ | refine ZJ (by conv=>lhs; simp [cc,cb,ci,m1,cap,tk0]) ?_ | refine ZA ?_ ?_)
 refine W.setI 240 false rfl rfl (fun c=>by cases c) ?_
 rw [← hl1l]
 clear cc cb ci hir
 repeat' (first | intro (hb : _ = _) | refine ZV ?_ | refine ZB (id:=5) tm sp ?_ | refine ZH ?_ ?_ | refine ZJ (by conv=>lhs; simp [cs,hr,rr,q1,q2,rowsQ_ren,rfm,rnm]) ?_ | refine ZA ?_ ?_)
 have capy : y.q.length ≤ 9223372036854775807:=by omega
 have tk : List.take y.q.length (y.q.map Msg.v) = y.q.map Msg.v:=List.take_of_length_le (by simp)
 refine W.frzC 240 p 3 rfl rfl rfl (rowsQ_at hi x _) rfl (by conv=>lhs; simp [frqT,frqV,frqVs,frqL,frq1,frz1,tk,e6,e5]) rfl ?_
 rw [show (rowQ x (.sl 592 1 0 1)).set 3 (.list 45 (y.q.map Msg.v)) = rowQ x (.list 45 (y.q.map Msg.v)) from rfl]
 rw [rowsQ_set,rowsQ_data l1 p x y e1 e2 e3]
 refine W.setI 240 true rfl rfl (fun _=>inl_lks _) ?_
 have hL : (l1.set p y).length = l1.length:=by simp
 have hm : (l1.set p y)[p]? = some y:=List.getElem?_set_self hi
 obtain ⟨R,hR⟩ : ∃ R,chgR l1 p y = R:=⟨_,rfl⟩
 have hR2 : R = if (!y.cut && y.q.isEmpty) = true then (l1.set p y).take p ++ (l1.set p y).drop (p + 1) else l1.set p y:=by
   rw [← hR,chgR]
   split
   · rw [List.take_set_of_le (Nat.le_refl _),List.drop_set_of_lt (by omega)]
   · rfl
 rw [hR]
 generalize l1.set p y = LL at *
 have cd:=delL LL p (by omega) (by omega)
 have hmm : (LL.map lkC)[p]? = some (lkC y):=by rw [List.getElem?_map,hm]; rfl
 have hw : IntKind.i64.wrap ((p : Int) + 1) = (p : Int) + 1:=w64 (by omega) (by omega)
 rw [hL] at cd
 obtain ⟨yf,yt,yc,yq⟩:=y
 simp only [lkC] at hmm
 clear hr rr hi hR hm
 cases yc with
 | true =>
   rw [if_neg (by simp)] at hR2
   subst hR2
   have tkR : List.take l1.length (R.map lkC) = R.map lkC:=List.take_of_length_le (by simp [hL])
   repeat' (first | intro (hb : _ = _) | refine ZV ?_ | refine ZB tm sp ?_ | refine ZH ?_ ?_ | refine ZJ (by conv=>lhs; simp [q1,q2,hmm,hL]) ?_ | refine ZA ?_ ?_)
   refine RetBN.dataE true [0] rfl (by conv=>lhs; simp) (by conv=>lhs; simp [tkR,hL,frqT,frqV,frqVs,frqL,frq1]) (by decide) (by rintro j hj; rcases (show j = 0 by omega) with rfl; exact ⟨rfl,rfl⟩) (by simp [rnm]) (by conv=>lhs; simp) (lks_nrm R)
 | false =>
   cases yq with
   | nil =>
     rw [if_pos (by simp)] at hR2
     rw [← hR2] at cd
     have tkR2 : List.take R.length (R.map lkC) = R.map lkC:=List.take_of_length_le (by simp)
     repeat' (first | intro (hb : _ = _) | refine ZV ?_ | refine ZB tm sp ?_ | refine ZH ?_ ?_ | refine ZJ (by conv=>lhs; simp [q1,q2,hmm,hL,cd,hw]) ?_ | refine ZA ?_ ?_)
     refine RetBN.dataE true [0] rfl (by conv=>lhs; simp) (by conv=>lhs; simp [tkR2,hL,frqT,frqV,frqVs,frqL,frq1]) (by decide) (by rintro j hj; rcases (show j = 0 by omega) with rfl; exact ⟨rfl,rfl⟩) (by simp [rnm]) (by conv=>lhs; simp) (lks_nrm R)
   | cons m1 r1 =>
     rw [if_neg (by simp)] at hR2
     subst hR2
     have tkR : List.take l1.length (R.map lkC) = R.map lkC:=List.take_of_length_le (by simp [hL])
     have h0 : (((m1 :: r1).length : Int) == 0) = false:=by simp; omega
     generalize m1 :: r1 = yq at *
     repeat' (first | intro (hb : _ = _) | refine ZV ?_ | refine ZB tm sp ?_ | refine ZH ?_ ?_ | refine ZJ (by conv=>lhs; simp [q1,q2,hmm,hL,h0,capy]) ?_ | refine ZA ?_ ?_)
     refine RetBN.dataE true [0] rfl (by conv=>lhs; simp) (by conv=>lhs; simp [tkR,hL,frqT,frqV,frqVs,frqL,frq1]) (by decide) (by rintro j hj; rcases (show j = 0 by omega) with rfl; exact ⟨rfl,rfl⟩) (by simp [rnm]) (by conv=>lhs; simp) (lks_nrm R)
noncomputable def chCN_sp (p : Nat) : NL Spec := [(31,⟨3,cpnS⟩),(52,⟨0,bsnS⟩),(30,⟨3,CutNS p⟩),(59,⟨3,deleteC 74 4⟩),(58,⟨3,insertC 74 4 48⟩)]
theorem chCN_sp_ok (p : Nat) : ∀ q ∈ chCN_sp p,FnC Try.prog q.1 q.2.fn := by
 simp only [chCN_sp,List.mem_cons,List.not_mem_nil,or_false]
 rintro q (rfl | rfl | rfl | rfl | rfl)
 · exact cpn_ok
 · exact bsn_ok
 · exact CutN_ok p
 · exact delete59_ok
 · exact insert58_ok
attribute [local simp] chCN_sp
theorem chCN_w (l : List Lk) (lh : l.length ≤ 8999) (lq : ∀ x ∈ l,okK x) (f t : Int) (p : Nat) (hp : bsN l f t = p) (hh : hasN l p f t = false) (hpl : p ≤ l.length) (x : Lk) (hx0 : x = ⟨f,t,false,[]⟩) (l1 : List Lk) (hl1 : l1 = l.take p ++ x :: l.drop p) (c : Bool) (y : Lk) (hy : y = { x with cut := c }) : W Try.prog (RetBN Try.prog Try.f26 [26] 1 (.agg [.list 4 ((chgR l1 p y).map lkC)]) [cB c]) (codeOf Try.f26) [] ⟨59,[(0, .agg [.list 4 (l.map lkC)]),(1, .int .i64 f),(2, .int .i64 t),(3, .fn (.func 30) [] [.ptr 0 0 0 0])],[(0,cB c)]⟩ := by
 have lh' : l.length ≤ 9000:=by omega
 have hl1l : l1.length = l.length + 1:=by rw [hl1]; simp; omega
 have hi : p < l1.length:=by omega
 have cc:=cpnS_eq ⟨l,lh',lq⟩
 have cb:=bsnS_eq ⟨l,lh',lq⟩ f t
 have cs:=CutNS_eq p l1 hi x c
 dsimp only at cc cb
 rw [hp,hh] at cb
 have ci:=insD_eq 74 4 48 l.length p (l.map lkC) [.int .i64 f, .int .i64 t, .bool false, .nils] (by simp) (by omega) (by omega) hpl
 have hir : List.take p (l.map lkC) ++ [[.int .i64 f, .int .i64 t, .bool false, .nils]] ++ List.drop p (l.map lkC) = rowsQ l1 p x .nils:=by
   rw [List.append_assoc,List.singleton_append,hl1,rowsQ,List.map_append,List.map_cons,List.map_take,List.map_drop,List.set_append_right _ _ (by simp; omega)]
   have : p - (List.take p (l.map lkC)).length = 0:=by simp; omega
   rw [this,List.set_cons_zero,hx0]
   rfl
 have hr:=fun a=>rowsQ_refs hi x a
 have rr:=fun a=>rowsQ_len' l1 p x a
 have q1 : (p : Int) < l1.length:=by omega
 have q2 : ¬ l1.length ≤ p:=by omega
 have sp:=chCN_sp_ok p
 have e1 : x.fr = y.fr:=by rw [hy]
 have e2 : x.to = y.to:=by rw [hy]
 have e3 : c = y.cut:=by rw [hy]
 have e4 : y.q = []:=by rw [hy,hx0]
 clear hy
 simp only [oB,qB,mB,cB] at cc cb cs ⊢
 rw [hir] at ci
 have m1 : (1 : Nat) ≤ maxLen:=by decide
 have cap : l.length ≤ 9223372036854775807:=by omega
 have tk0 : List.take l.length (l.map lkC) = l.map lkC:=List.take_of_length_le (by simp)
 repeat' (first | intro (hb : _ = _) | refine ZV ?_ | refine ZB (id:=0) tm sp ?_ | refine ZB (id:=1) tm sp ?_ | refine ZB (id:=2) tm sp ?_ | refine ZB (id:=3) tm sp ?_ | refine ZB (id:=4) tm sp ?_ | refine ZH ?_ ?_ | refine ZJ (by conv=>lhs; simp [cc,cb,ci,m1,cap,tk0]) ?_ | refine ZA ?_ ?_)
 refine W.setI 240 false rfl rfl (fun c=>by cases c) ?_
 rw [← hl1l]
 clear cc cb ci hir
 repeat' (first | intro (hb : _ = _) | refine ZV ?_ | refine ZB (id:=5) tm sp ?_ | refine ZH ?_ ?_ | refine ZJ (by conv=>lhs; simp [cs,hr,rr,q1,q2,rowsQ_ren]) ?_ | refine ZA ?_ ?_)
 have capy : y.q.length ≤ 9223372036854775807:=by rw [e4]; simp
 refine W.nrmB 240 (leafs Try.prog 74) rfl rfl ?_
 simp only [rowsQ_nrm l1 p { x with cut:=c } y e1 e2 e3 e4]
 refine W.setI 240 true rfl rfl (fun _=>inl_lks _) ?_
 have hL : (l1.set p y).length = l1.length:=by simp
 have hm : (l1.set p y)[p]? = some y:=List.getElem?_set_self hi
 obtain ⟨R,hR⟩ : ∃ R,chgR l1 p y = R:=⟨_,rfl⟩
 have hR2 : R = if (!y.cut && y.q.isEmpty) = true then (l1.set p y).take p ++ (l1.set p y).drop (p + 1) else l1.set p y:=by
   rw [← hR,chgR]
   split
   · rw [List.take_set_of_le (Nat.le_refl _),List.drop_set_of_lt (by omega)]
   · rfl
 rw [hR]
 generalize l1.set p y = LL at *
 have cd:=delL LL p (by omega) (by omega)
 have hmm : (LL.map lkC)[p]? = some (lkC y):=by rw [List.getElem?_map,hm]; rfl
 have hw : IntKind.i64.wrap ((p : Int) + 1) = (p : Int) + 1:=w64 (by omega) (by omega)
 rw [hL] at cd
 obtain ⟨yf,yt,yc,yq⟩:=y
 simp only [lkC] at hmm
 clear hr rr hi hR hm
 cases yc with
 | true =>
   rw [if_neg (by simp)] at hR2
   subst hR2
   have tkR : List.take l1.length (R.map lkC) = R.map lkC:=List.take_of_length_le (by simp [hL])
   repeat' (first | intro (hb : _ = _) | refine ZV ?_ | refine ZB tm sp ?_ | refine ZH ?_ ?_ | refine ZJ (by conv=>lhs; simp [q1,q2,hmm,hL]) ?_ | refine ZA ?_ ?_)
   refine RetBN.dataE true [0] rfl (by conv=>lhs; simp) (by conv=>lhs; simp [tkR,hL,frqT,frqV,frqVs,frqL,frq1]) (by decide) (by rintro j hj; rcases (show j = 0 by omega) with rfl; exact ⟨rfl,rfl⟩) (by simp) (by conv=>lhs; simp) (lks_nrm R)
 | false =>
   cases yq with
   | nil =>
     rw [if_pos (by simp)] at hR2
     rw [← hR2] at cd
     have tkR2 : List.take R.length (R.map lkC) = R.map lkC:=List.take_of_length_le (by simp)
     repeat' (first | intro (hb : _ = _) | refine ZV ?_ | refine ZB tm sp ?_ | refine ZH ?_ ?_ | refine ZJ (by conv=>lhs; simp [q1,q2,hmm,hL,cd,hw]) ?_ | refine ZA ?_ ?_)
     refine RetBN.dataE true [0] rfl (by conv=>lhs; simp) (by conv=>lhs; simp [tkR2,hL,frqT,frqV,frqVs,frqL,frq1]) (by decide) (by rintro j hj; rcases (show j = 0 by omega) with rfl; exact ⟨rfl,rfl⟩) (by simp) (by conv=>lhs; simp) (lks_nrm R)
   | cons m1 r1 =>
     rw [if_neg (by simp)] at hR2
     subst hR2
     have tkR : List.take l1.length (R.map lkC) = R.map lkC:=List.take_of_length_le (by simp [hL])
     have h0 : (((m1 :: r1).length : Int) == 0) = false:=by simp; omega
     generalize m1 :: r1 = yq at *
     repeat' (first | intro (hb : _ = _) | refine ZV ?_ | refine ZB tm sp ?_ | refine ZH ?_ ?_ | refine ZJ (by conv=>lhs; simp [q1,q2,hmm,hL,h0,capy]) ?_ | refine ZA ?_ ?_)
     refine RetBN.dataE true [0] rfl (by conv=>lhs; simp) (by conv=>lhs; simp [tkR,hL,frqT,frqV,frqVs,frqL,frq1]) (by decide) (by rintro j hj; rcases (show j = 0 by omega) with rfl; exact ⟨rfl,rfl⟩) (by simp) (by conv=>lhs; simp) (lks_nrm R)
end
section
attribute [local simp] instA slice3A slice3C
attribute [-simp] mkv
attribute [local simp] mkv_hd hdA_cons hdA_ob hdA_ob'
end
section
def AscE (l : List En) : Prop := l.Pairwise (fun a b => a.id < b.id)
theorem bsF_spc {c : Nat → Bool} (mono : ∀ j k,j ≤ k → c k = true → c j = true) : ∀ (d lo hi : Nat),hi - lo = d → lo ≤ hi → ∀ k,lo ≤ k → k < hi → (c k = true ↔ k < bsF c lo hi) := by
 intro d
 induction d using Nat.strongRecOn with
 | ind d ih =>
   intro lo hi hd hl k hk1 hk2
   rw [bsF_lt (show lo < hi by omega)]
   cases hc : c ((lo + hi) / 2) with
   | true =>
     rw [if_pos rfl]
     by_cases h : k ≤ (lo + hi) / 2
     · have hb:=(bsF_bd c _ ((lo + hi) / 2 + 1) hi rfl (by omega)).1
       exact ⟨fun _=>by omega,fun _=>mono _ _ h hc⟩
     · exact ih (hi - ((lo + hi) / 2 + 1)) (by omega) ((lo + hi) / 2 + 1) hi rfl (by omega) k (by omega) hk2
   | false =>
     rw [if_neg (by simp)]
     by_cases h : k < (lo + hi) / 2
     · exact ih ((lo + hi) / 2 - lo) (by omega) lo ((lo + hi) / 2) rfl (by omega) k hk1 h
     · have hb:=(bsF_bd c _ lo ((lo + hi) / 2) rfl (by omega)).2
       refine ⟨fun h1=>?_,fun _=>by omega⟩
       rw [mono _ _ (by omega) h1] at hc
       cases hc
theorem bsD_spec {l : List En} {id : Int} (h : AscE l) (k : Nat) (hk : k < l.length) : l[k].id < id ↔ k < bsD l id := by
 have:=bsF_spc (c:=fun k=>match l[k]? with | some t=>decide (t.id < id) | none=>false) (fun i j hij hc=>by
   cases hj : l[j]? with
   | none=>rw [hj] at hc; cases hc
   | some t =>
     rw [hj] at hc
     obtain ⟨h1,rfl⟩:=List.getElem?_eq_some_iff.1 hj
     simp only [decide_eq_true_eq] at hc
     rw [List.getElem?_eq_getElem (show i < l.length by omega)]
     simp only [decide_eq_true_eq]
     by_cases e : i = j
     · subst e; exact hc
     · have:=List.pairwise_iff_getElem.1 h i j (by omega) h1 (by omega)
       omega) _ 0 l.length rfl (by omega) k (by omega) hk
 simp only [List.getElem?_eq_getElem hk,decide_eq_true_eq] at this
 exact this
theorem part (x : En) {l : List En} (h : AscE l) : ∃ L R,l = L ++ R ∧ (∀ e ∈ L,e.id < x.id) ∧ (∀ e ∈ R,x.id ≤ e.id) ∧ L.length = bsD l x.id := by
 have hb:=bsD_le l x.id
 refine ⟨l.take (bsD l x.id),l.drop (bsD l x.id),(List.take_append_drop _ _).symm,fun e he=>?_,fun e he=>?_,by simp; omega⟩
 · obtain ⟨i,hi,rfl⟩:=List.mem_iff_getElem.1 he
   rw [List.length_take] at hi
   rw [List.getElem_take]
   exact (bsD_spec h i (by omega)).2 (by omega)
 · obtain ⟨i,hi,rfl⟩:=List.mem_iff_getElem.1 he
   rw [List.length_drop] at hi
   rw [List.getElem_drop]
   have:=bsD_spec (id:=x.id) h (bsD l x.id + i) (by omega)
   omega
structure Hn (e : En) : Prop where
 id : e.id ≠ 0
 o1 : -1 ≤ e.owner
 o2 : e.owner ≤ 127
 rd : ascN e.readers = true
 wt : ascN e.waiting = true
 ow : e.owner = -1 ∨ (e.readers = [] ∧ zO? e.obj = true)
 ob : oid e.obj = e.id ∨ zO? e.obj = true
 st : ∀ w ∈ e.waiting,w = e.owner ∨ w ∈ e.readers
 qu : ∀ p ∈ e.queue,okN p.1 = true ∧ okM p.2 = true
end
section
def SrtK (l : List Lk) : Prop := l.Pairwise fun a b => befB a b.fr b.to = true
theorem befK_iff {l : Lk} {f t : Int} : befB l f t = true ↔ l.fr < f ∨ (l.fr = f ∧ l.to < t) := by simp [befB]
theorem lkIsK_iff {f t : Int} {l : Lk} : lkIs f t l = true ↔ l.fr = f ∧ l.to = t := by simp [lkIs]
theorem validK_srt {l : List Lk} (h : validK l = true) : SrtK l := by
 have hg : ∀ k,k < l.length → goodK l k = true:=fun k hk=>by
   unfold validK at h
   rw [List.all_eq_true] at h
   exact h k (List.mem_range.2 hk)
 have hadj : ∀ i (h1 : i + 1 < l.length),befB (l[i]'(by omega)) l[i + 1].fr l[i + 1].to = true:=fun i h1=>by
   have:=hg (i + 1) h1
   unfold goodK at this
   rw [List.getElem?_eq_getElem h1] at this
   simp only [List.getElem?_eq_getElem (show i < l.length by omega),Bool.and_eq_true] at this
   exact this.2.2
 have hlt : ∀ d i (h1 : i + 1 + d < l.length),befB (l[i]'(by omega)) l[i + 1 + d].fr l[i + 1 + d].to = true:=by
   intro d
   induction d with
   | zero=>exact hadj
   | succ d ih =>
     intro i h1
     have a:=befK_iff.1 (ih i (by omega))
     have b:=befK_iff.1 (hadj (i + 1 + d) (by omega))
     have e : i + 1 + (d + 1) = i + 1 + d + 1:=by omega
     simp only [e]
     rw [befK_iff]
     omega
 rw [SrtK,List.pairwise_iff_getElem]
 intro i j hi hj hij
 have:=hlt (j - i - 1) i (by omega)
 have e : i + 1 + (j - i - 1) = j:=by omega
 simp only [e] at this
 exact this
theorem bsN_le (l : List Lk) (f t : Int) : bsN l f t ≤ l.length := (bsF_bd _ _ 0 l.length rfl (by omega)).2
theorem bsN_spec {l : List Lk} (h : SrtK l) (f t : Int) (k : Nat) (hk : k < l.length) : befB l[k] f t = true ↔ k < bsN l f t := by
 have:=bsF_spc (c:=fun k=>match l[k]? with | some x=>befB x f t | none=>false) (fun i j hij hc=>by
   cases hj : l[j]? with
   | none=>rw [hj] at hc; cases hc
   | some y =>
     rw [hj] at hc
     obtain ⟨hj1,rfl⟩:=List.getElem?_eq_some_iff.1 hj
     rw [List.getElem?_eq_getElem (show i < l.length by omega)]
     dsimp only
     by_cases e : i = j
     · subst e; exact hc
     · have:=List.pairwise_iff_getElem.1 h i j (by omega) hj1 (by omega)
       rw [befK_iff] at this hc ⊢
       omega) l.length 0 l.length rfl (by omega) k (by omega) hk
 simp only [List.getElem?_eq_getElem hk] at this
 exact this
theorem partK {l : List Lk} (h : SrtK l) (f t : Int) : ∃ A B,l = A ++ B ∧ A.length = bsN l f t ∧ (∀ x ∈ A,befB x f t = true) ∧ (∀ x ∈ B,befB x f t = false) ∧ SrtK B := by
 have hle:=bsN_le l f t
 refine ⟨l.take (bsN l f t),l.drop (bsN l f t),(List.take_append_drop _ _).symm,by rw [List.length_take]; omega,fun x hx=>?_,fun x hx=>?_,List.Pairwise.sublist (List.drop_sublist _ _) h⟩
 · obtain ⟨k,hk,rfl⟩:=List.mem_iff_getElem.1 hx
   rw [List.length_take] at hk
   rw [List.getElem_take]
   exact (bsN_spec h f t k (by omega)).2 (by omega)
 · obtain ⟨k,hk,rfl⟩:=List.mem_iff_getElem.1 hx
   rw [List.length_drop] at hk
   rw [List.getElem_drop]
   refine Bool.eq_false_iff.2 fun c=>?_
   have:=(bsN_spec h f t _ (by omega)).1 c
   omega
theorem othK_id {y : Lk} {l : List Lk} (h : ∀ x ∈ l,lkIs y.fr y.to x = false) : othK y l = l := by
 unfold othK
 rw [List.filter_eq_self]
 intro x hx
 have:=h x hx
 simp only [lkIs,Bool.and_eq_false_iff,beq_eq_false_iff_ne,ne_eq] at this
 simp only [Bool.or_eq_true,bne_iff_ne,ne_eq]
 exact this
theorem putP_app {y : Lk} : ∀ {A B : List Lk},(∀ x ∈ A,befB x y.fr y.to = true) → putP y (A ++ B) = A ++ putP y B
 | [],B,_=>rfl
 | a :: A,B,h=>by
   rw [List.cons_append,putP,if_pos (h a (by simp)),putP_app fun x hx=>h x (by simp [hx])]
   rfl
theorem bef_is {x : Lk} {f t : Int} (h : befB x f t = true) : lkIs f t x = false := by
 refine Bool.eq_false_iff.2 fun c=>?_
 rw [befK_iff] at h
 rw [lkIsK_iff] at c
 omega
theorem find_none {p : Lk → Bool} {A B : List Lk} (h : ∀ x ∈ A,p x = false) : (A ++ B).find? p = B.find? p := by
 rw [List.find?_append,List.find?_eq_none.2 fun x hx=>by rw [h x hx]; decide]
 rfl
theorem chg_found {l : List Lk} {f t : Int} {x : Lk} (hs : SrtK l) (hx : l[bsN l f t]? = some x) (hh : hasN l (bsN l f t) f t = true) : fndK f t l = x ∧ x.fr = f ∧ x.to = t ∧ ∀ y : Lk,y.fr = f → y.to = t → chgR l (bsN l f t) y = putK y l := by
 obtain ⟨A,B,e1,e2,e3,e4,e5⟩:=partK hs f t
 have hxi : lkIs f t x = true:=by simpa [hasN,hx] using hh
 rw [← e2] at hx ⊢
 have hB : ∃ r,B = x :: r:=by
   rw [e1,List.getElem?_append_right (Nat.le_refl _),Nat.sub_self] at hx
   cases B with
   | nil=>simp at hx
   | cons z r =>
     simp only [List.getElem?_cons_zero,Option.some.injEq] at hx
     exact ⟨r,by rw [hx]⟩
 obtain ⟨r,rfl⟩:=hB
 obtain ⟨e6,e7⟩:=List.pairwise_cons.1 e5
 obtain ⟨i1,i2⟩:=lkIsK_iff.1 hxi
 have hr : ∀ z ∈ r,lkIs f t z = false:=fun z hz=>by
   have:=befK_iff.1 (e6 z hz)
   refine Bool.eq_false_iff.2 fun c=>?_
   rw [lkIsK_iff] at c
   omega
 refine ⟨?_,i1,i2,fun y y1 y2=>?_⟩
 · unfold fndK
   rw [e1,find_none fun z hz=>bef_is (e3 z hz),List.find?_cons,hxi]
   rfl
 · have hA : ∀ z ∈ A,befB z y.fr y.to = true:=fun z hz=>by rw [y1,y2]; exact e3 z hz
   have hR : ∀ z ∈ r,lkIs y.fr y.to z = false:=fun z hz=>by rw [y1,y2]; exact hr z hz
   have ho : othK y (x :: r) = r:=by
     have : othK y (x :: r) = othK y r:=by
       unfold othK
       rw [List.filter_cons,if_neg]
       simp [i1,i2,y1,y2]
     rw [this,othK_id hR]
   unfold chgR putK restK
   rw [e1]
   split
   · have : othK y (A ++ x :: r) = othK y A ++ othK y (x :: r):=List.filter_append ..
     rw [this,ho,othK_id fun z hz=>bef_is (hA z hz)]
     simp
   · rw [putP_app hA,putP,if_neg,ho]
     · simp
     · rw [y1,y2,e4 x (by simp)]
       decide
theorem chg_none {l : List Lk} {f t : Int} (hs : SrtK l) (hh : hasN l (bsN l f t) f t = false) : fndK f t l = ⟨f,t,false,[]⟩ ∧ ∀ z y : Lk,y.fr = f → y.to = t → chgR (l.take (bsN l f t) ++ z :: l.drop (bsN l f t)) (bsN l f t) y = putK y l := by
 obtain ⟨A,B,e1,e2,e3,e4,e5⟩:=partK hs f t
 have hB : ∀ z ∈ B,lkIs f t z = false:=by
   cases B with
   | nil=>intro z hz; cases hz
   | cons b r =>
     have hb : lkIs f t b = false:=by
       have : l[bsN l f t]? = some b:=by rw [← e2,e1,List.getElem?_append_right (Nat.le_refl _),Nat.sub_self]; rfl
       simpa [hasN,this] using hh
     obtain ⟨e6,e7⟩:=List.pairwise_cons.1 e5
     intro z hz
     rcases List.mem_cons.1 hz with rfl | hz
     · exact hb
     · have h1:=befK_iff.1 (e6 z hz)
       have h2 : ¬ befB b f t = true:=by rw [e4 b (by simp)]; decide
       have h3 : ¬ lkIs f t b = true:=by rw [hb]; decide
       rw [befK_iff] at h2
       rw [lkIsK_iff] at h3
       refine Bool.eq_false_iff.2 fun c=>?_
       rw [lkIsK_iff] at c
       omega
 have hAll : ∀ z ∈ l,lkIs f t z = false:=fun z hz=>by
   rw [e1] at hz
   rcases List.mem_append.1 hz with hz | hz
   · exact bef_is (e3 z hz)
   · exact hB z hz
 have t1 : l.take (bsN l f t) = A:=by rw [e1]; rw [e1] at e2; rw [← e2]; simp
 have t2 : l.drop (bsN l f t) = B:=by rw [e1]; rw [e1] at e2; rw [← e2]; simp
 refine ⟨?_,fun z y y1 y2=>?_⟩
 · unfold fndK
   rw [List.find?_eq_none.2 fun z hz=>by rw [hAll z hz]; decide]
   rfl
 · have hA : ∀ z ∈ A,befB z y.fr y.to = true:=fun z hz=>by rw [y1,y2]; exact e3 z hz
   rw [t1,t2, ← e2]
   unfold chgR putK restK
   split
   · rw [othK_id (by rw [y1,y2]; exact hAll),e1]
     simp
   · rw [e1,putP_app hA]
     have : putP y B = y :: B:=by
       cases B with
       | nil=>rfl
       | cons b r =>
         rw [putP,if_neg (by rw [y1,y2,e4 b (by simp)]; decide),othK_id (by rw [y1,y2]; exact hB)]
     rw [this]
     simp
theorem srt_part {l : List Lk} (hs : SrtK l) (y : Lk) : SrtK (putK y l) := by
 obtain ⟨A,B,e1,e2,e3,e4,e5⟩:=partK hs y.fr y.to
 have hs':=hs
 rw [e1] at hs'
 obtain ⟨s1,s2,s3⟩:=List.pairwise_append.1 hs'
 unfold putK restK
 split
 · exact List.Pairwise.filter _ hs
 · rw [e1,putP_app e3]
   have hsub : (othK y B).Sublist B:=List.filter_sublist
   have hp : putP y B = y :: othK y B:=by
     cases B with
     | nil=>rfl
     | cons b r=>rw [putP,if_neg (by rw [e4 b (by simp)]; decide)]
   rw [hp]
   refine List.pairwise_append.2 ⟨s1,List.pairwise_cons.2 ⟨fun z hz=>?_,s2.sublist hsub⟩,fun a ha b hb=>?_⟩
   · unfold othK at hz
     obtain ⟨hz1,hz2⟩:=List.mem_filter.1 hz
     have h4 : ¬ befB z y.fr y.to = true:=by rw [e4 z hz1]; decide
     rw [befK_iff] at h4 ⊢
     simp only [Bool.or_eq_true,bne_iff_ne,ne_eq] at hz2
     omega
   · rcases List.mem_cons.1 hb with rfl | hb
     · exact e3 a ha
     · exact s3 a ha b (hsub.subset hb)
end
section
abbrev NtS := {d : Nts // SrtK d.ls ∧ d.ls.length ≤ 8999}
theorem NtS.inj {a b : NtS} (h : a.1.ls = b.1.ls) : a = b := by
 obtain ⟨⟨l,h1,h2⟩,h3⟩:=a
 obtain ⟨⟨l',h1',h2'⟩,h3'⟩:=b
 cases h
 rfl
theorem fndK_at {l : List Lk} {f t : Int} (hh : hasN l (bsN l f t) f t = true) : ∃ x,l[bsN l f t]? = some x := by
 unfold hasN at hh
 cases h : l[bsN l f t]? with
 | none=>rw [h] at hh; cases hh
 | some x=>exact ⟨x,rfl⟩
noncomputable def sndL (l : List Lk) (f t : Int) (m : Msg) : List Lk := putK { fndK f t l with q := (fndK f t l).q ++ [m] } l
def encCS (d : NtS × Int × Int × Msg) : List AV × List ABlk := ([.agg [.list 4 (d.1.1.ls.map lkC)], .int .i64 d.2.1, .int .i64 d.2.2.1, .fn (.func 27) [] [.ptr 0 0 0 0]],[mB d.2.2.2])
noncomputable def chsS : SpecFn := mkS2 encCS fun d => (.agg [.list 4 ((sndL d.1.1.ls d.2.1 d.2.2.1 d.2.2.2).map lkC)],[mB d.2.2.2])
theorem chsS_eq (d : NtS) (f t : Int) (m : Msg) : chsS [.agg [.list 4 (d.1.ls.map lkC)], .int .i64 f, .int .i64 t, .fn (.func 27) [] [.ptr 0 0 0 0]] [mB m] = some (.agg [.list 4 ((sndL d.1.ls f t m).map lkC)],[mB m]) :=
 mkS2_eq (enc:=encCS) (res:=fun d=>(.agg [.list 4 ((sndL d.1.1.ls d.2.1 d.2.2.1 d.2.2.2).map lkC)],[mB d.2.2.2])) (fun x y h=>by
   obtain ⟨a,b,c,m⟩:=x
   obtain ⟨a',b',c',m'⟩:=y
   simp only [encCS,Prod.mk.injEq,List.cons.injEq,AV.agg.injEq,AV.list.injEq,AV.int.injEq,true_and,and_true] at h
   obtain ⟨⟨h1,rfl,rfl⟩,h2⟩:=h
   rw [NtS.inj (lks_inj h1),mB_inj h2]) (d,f,t,m)
theorem chs_ok : FnC Try.prog 26 chsS := by
 refine FnC.walkBN 26 (fn:=Try.f26) [26] Try.func26 rfl (by kernel_rfl) (fun x b hb=>by simp [encCS] at hb; rw [hb]; rfl) (fun d=>?_) (fun d=>⟨_,lks_nrm _⟩)
 obtain ⟨⟨⟨l,lh,lq⟩,hs,l8⟩,f,t,m⟩:=d
 dsimp only at hs l8
 change W _ (RetBN _ _ _ 1 (.agg [.list 4 ((sndL l f t m).map lkC)]) [mB m]) _ _ ⟨59,[(0, .agg [.list 4 (l.map lkC)]),(1, .int .i64 f),(2, .int .i64 t),(3, .fn (.func 27) [] [.ptr 0 0 0 0])],[(0,mB m)]⟩
 cases hh : hasN l (bsN l f t) f t with
 | true =>
   obtain ⟨x,hx⟩:=fndK_at hh
   obtain ⟨e1,e2,e3,e4⟩:=chg_found hs hx hh
   have e5:=e4 { x with q:=x.q ++ [m] } e2 e3
   rw [sndL,e1, ← e5]
   exact chSQ_w l l8 lq f t _ rfl x hx hh m _ rfl
 | false =>
   obtain ⟨e1,e4⟩:=chg_none hs hh
   have e5:=e4 ⟨f,t,false,[]⟩ ⟨f,t,false,[m]⟩ rfl rfl
   rw [sndL,e1]
   show W _ (RetBN _ _ _ 1 (.agg [.list 4 ((putK ⟨f,t,false,[m]⟩ l).map lkC)]) [mB m]) _ _ _
   rw [← e5]
   exact chSN_w l l8 lq f t _ rfl hh (bsN_le _ _ _) _ rfl _ rfl m _ rfl
def encCD (d : {d : (NtS × Int × Int) × Msg × List Msg // (fndK d.1.2.1 d.1.2.2 d.1.1.1.ls).q = d.2.1 :: d.2.2}) : List AV × List ABlk := ([.agg [.list 4 (d.1.1.1.1.ls.map lkC)], .int .i64 d.1.1.2.1, .int .i64 d.1.1.2.2, .fn (.func 28) [] [.ptr 0 0 0 0]],[mzB])
noncomputable def dlvL (l : List Lk) (f t : Int) (r : List Msg) : List Lk := putK { fndK f t l with q := r } l
noncomputable def chdS : SpecFn := mkS2 encCD fun d => (.agg [.list 4 ((dlvL d.1.1.1.1.ls d.1.1.2.1 d.1.1.2.2 d.1.2.2).map lkC)],[mB d.1.2.1])
theorem chdS_eq (d : NtS) (f t : Int) (m : Msg) (r : List Msg) (h : (fndK f t d.1.ls).q = m :: r) : chdS [.agg [.list 4 (d.1.ls.map lkC)], .int .i64 f, .int .i64 t, .fn (.func 28) [] [.ptr 0 0 0 0]] [mzB] = some (.agg [.list 4 ((dlvL d.1.ls f t r).map lkC)],[mB m]) :=
 mkS2_eq (enc:=encCD) (res:=fun d=>(.agg [.list 4 ((dlvL d.1.1.1.1.ls d.1.1.2.1 d.1.1.2.2 d.1.2.2).map lkC)],[mB d.1.2.1])) (fun x y h=>by
   obtain ⟨⟨⟨a,b,c⟩,m,r⟩,hx⟩:=x
   obtain ⟨⟨⟨a',b',c'⟩,m',r'⟩,hy⟩:=y
   simp only [encCD,Prod.mk.injEq,List.cons.injEq,AV.agg.injEq,AV.list.injEq,AV.int.injEq,true_and,and_true] at h
   obtain ⟨h1,rfl,rfl⟩:=h
   cases NtS.inj (lks_inj h1)
   dsimp only at hx hy
   rw [hx] at hy
   cases hy
   rfl) ⟨((d,f,t),m,r),h⟩
theorem chd_ok : FnC Try.prog 26 chdS := by
 refine FnC.walkBN 26 (fn:=Try.f26) [26] Try.func26 rfl (by kernel_rfl) (fun x b hb=>by simp [encCD] at hb; rw [hb]; rfl) (fun d=>?_) (fun d=>⟨_,lks_nrm _⟩)
 obtain ⟨⟨⟨⟨⟨l,lh,lq⟩,hs,l8⟩,f,t⟩,m,r⟩,hq⟩:=d
 dsimp only at hs l8 hq
 change W _ (RetBN _ _ _ 1 (.agg [.list 4 ((dlvL l f t r).map lkC)]) [mB m]) _ _ ⟨59,[(0, .agg [.list 4 (l.map lkC)]),(1, .int .i64 f),(2, .int .i64 t),(3, .fn (.func 28) [] [.ptr 0 0 0 0])],[(0,mzB)]⟩
 cases hh : hasN l (bsN l f t) f t with
 | true =>
   obtain ⟨x,hx⟩:=fndK_at hh
   obtain ⟨e1,e2,e3,e4⟩:=chg_found hs hx hh
   have e5:=e4 { x with q:=r } e2 e3
   rw [e1] at hq
   rw [dlvL,e1, ← e5]
   exact chDQ_w l l8 lq f t _ rfl x hx hh m r hq _ rfl
 | false =>
   obtain ⟨e1,e4⟩:=chg_none hs hh
   rw [e1] at hq
   cases hq
def encCC (d : NtS × Int × Int × Bool) : List AV × List ABlk := ([.agg [.list 4 (d.1.1.ls.map lkC)], .int .i64 d.2.1, .int .i64 d.2.2.1, .fn (.func 30) [] [.ptr 0 0 0 0]],[cB d.2.2.2])
noncomputable def cutL (l : List Lk) (f t : Int) (c : Bool) : List Lk := putK { fndK f t l with cut := c } l
noncomputable def chcS : SpecFn := mkS2 encCC fun d => (.agg [.list 4 ((cutL d.1.1.ls d.2.1 d.2.2.1 d.2.2.2).map lkC)],[cB d.2.2.2])
theorem chcS_eq (d : NtS) (f t : Int) (c : Bool) : chcS [.agg [.list 4 (d.1.ls.map lkC)], .int .i64 f, .int .i64 t, .fn (.func 30) [] [.ptr 0 0 0 0]] [cB c] = some (.agg [.list 4 ((cutL d.1.ls f t c).map lkC)],[cB c]) :=
 mkS2_eq (enc:=encCC) (res:=fun d=>(.agg [.list 4 ((cutL d.1.1.ls d.2.1 d.2.2.1 d.2.2.2).map lkC)],[cB d.2.2.2])) (fun x y h=>by
   obtain ⟨a,b,c,m⟩:=x
   obtain ⟨a',b',c',m'⟩:=y
   simp only [encCC,cB,Prod.mk.injEq,List.cons.injEq,AV.agg.injEq,AV.list.injEq,AV.int.injEq,ABlk.mk.injEq,AV.bool.injEq,true_and,and_true] at h
   obtain ⟨⟨h1,rfl,rfl⟩,rfl⟩:=h
   rw [NtS.inj (lks_inj h1)]) (d,f,t,c)
theorem chc_ok : FnC Try.prog 26 chcS := by
 refine FnC.walkBN 26 (fn:=Try.f26) [26] Try.func26 rfl (by kernel_rfl) (fun x b hb=>by simp [encCC] at hb; rw [hb]; rfl) (fun d=>?_) (fun d=>⟨_,lks_nrm _⟩)
 obtain ⟨⟨⟨l,lh,lq⟩,hs,l8⟩,f,t,c⟩:=d
 dsimp only at hs l8
 change W _ (RetBN _ _ _ 1 (.agg [.list 4 ((cutL l f t c).map lkC)]) [cB c]) _ _ ⟨59,[(0, .agg [.list 4 (l.map lkC)]),(1, .int .i64 f),(2, .int .i64 t),(3, .fn (.func 30) [] [.ptr 0 0 0 0])],[(0,cB c)]⟩
 cases hh : hasN l (bsN l f t) f t with
 | true =>
   obtain ⟨x,hx⟩:=fndK_at hh
   obtain ⟨e1,e2,e3,e4⟩:=chg_found hs hx hh
   have e5:=e4 { x with cut:=c } e2 e3
   rw [cutL,e1, ← e5]
   exact chCQ_w l l8 lq f t _ rfl x hx hh c _ rfl
 | false =>
   obtain ⟨e1,e4⟩:=chg_none hs hh
   have e5:=e4 ⟨f,t,false,[]⟩ ⟨f,t,c,[]⟩ rfl rfl
   rw [cutL,e1]
   show W _ (RetBN _ _ _ 1 (.agg [.list 4 ((putK ⟨f,t,c,[]⟩ l).map lkC)]) [cB c]) _ _ _
   rw [← e5]
   exact chCN_w l l8 lq f t _ rfl hh (bsN_le _ _ _) _ rfl _ rfl c _ rfl
def encCF (d : {d : NtS × Int × Int // hasN d.1.1.ls (bsN d.1.1.ls d.2.1 d.2.2) d.2.1 d.2.2 = true}) : List AV × List ABlk := ([.agg [.list 4 (d.1.1.1.ls.map lkC)], .int .i64 d.1.2.1, .int .i64 d.1.2.2, .fn (.func 32) [] []],[])
noncomputable def fgtL1 (l : List Lk) (f t : Int) : List Lk := putK { fndK f t l with q := [] } l
noncomputable def chfS : SpecFn := mkS2 encCF fun d => (.agg [.list 4 ((fgtL1 d.1.1.1.ls d.1.2.1 d.1.2.2).map lkC)],[])
end
section
attribute [local simp] instA slice3A slice3C
attribute [-simp] mkv
attribute [local simp] mkv_hd hdA_cons hdA_ob hdA_ob'
def rN (l : List Lk) (e : Int) : AV := .tup [.agg [.list 4 (l.map lkC)], .int .i64 e]
theorem rN_nrm (l : List Lk) (e : Int) : nrmR Try.prog [26,51] (rN l e) = rN l e := by
 simp only [rN,nrmR,nrmL,nrmV,nwLeafs,uK,nrmRows_map lkC_nrm]
theorem rN_nrm0 (e : Int) : nrmR Try.prog [26,51] (.tup [.agg [.nils], .int .i64 e]) = rN [] e := by
 simp only [rN,nrmR,nrmL,nrmV,nwLeafs,uK,cK,List.map_nil]
noncomputable def sndN (ls : List Lk) (m : Msg) : List Lk × Int :=
 if validK ls = false then ([],1) else if (!okN m.fr || !okN m.to) = true then ([],2) else
   let l:=fndK m.fr m.to ls
   if 4096 ≤ l.q.length then ([],9) else (putK ⟨l.fr,l.to,l.cut,l.q ++ [m]⟩ ls,0)
theorem msgv1_inj {a b : Msg} (h : a.v = b.v) : a = b := by
 have:=msgv_inj (l:=[a]) (m:=[b]) (by simp only [List.map_cons,List.map_nil,h])
 simpa using this
theorem fndK_ok {ls : List Lk} (he : ∀ l ∈ ls,okK l) (f t : Int) : okK (fndK f t ls) := by
 unfold fndK
 cases hf : ls.find? (lkIs f t) with
 | none=>exact Nat.zero_le _
 | some e=>exact he e (List.mem_of_find?_eq_some hf)
noncomputable def sdk_specs : NL Spec := [(36,⟨1,vkS⟩),(37,⟨1,boS okN⟩),(38,⟨1,fnkS⟩),(39,⟨1,ptlS⟩)]
attribute [local simp] sdk_specs
noncomputable def mz : Msg := ⟨0,0,0,0,0,zOb,0,0,0,0⟩
def rDl (m : Msg) (l : List Lk) (e : Int) : AV := .tup [.agg m.v, .agg [.list 4 (l.map lkC)], .int .i64 e]
theorem rDl_nrm (m : Msg) (l : List Lk) (e : Int) : nrmR Try.prog [50,26,51] (rDl m l e) = rDl m l e := by
 simp only [rDl,nrmR,nrmL,nrmV,msg_nrm,nwLeafs,uK,nrmRows_map lkC_nrm]
theorem rDl_nrm0 (e : Int) : nrmR Try.prog [50,26,51] (.tup [.agg (.int .i64 0 :: .int .i64 0 :: .int .i64 0 :: .int .u64 0 :: .int .i64 0 :: (zO ++ [.int .u64 0, .int .i64 0, .int .u64 0, .int .i64 0])), .agg [.nils], .int .i64 e]) = rDl mz [] e := by
 simp only [rDl,nrmR,nrmL,nrmV,msg_nrm0,nwLeafs,uK,cK,List.map_nil,mz]
noncomputable def dlvN (ls : List Lk) (f t : Int) : Msg × List Lk × Int :=
 if validK ls = false then (mz,[],1) else
   let l:=fndK f t ls
   match l.q with
   | []=>(mz,[],6)
   | m :: r=>if l.cut then (mz,[],8) else (m,putK ⟨l.fr,l.to,l.cut,r⟩ ls,0)
noncomputable def dlv_specs : NL Spec := [(36,⟨1,vkS⟩),(38,⟨1,fnkS⟩),(39,⟨1,ptlS⟩)]
attribute [local simp] dlv_specs
end
end Go.Abs.Nn
