/- Lists that are equal are the same. Conditions: none. -/
import Derived.Test.YtphclapfniepoaaNn1
namespace Go.Abs.Nn
open Go Go.Proofs Go.Abs
set_option maxRecDepth 100000
set_option maxHeartbeats 4000000
set_option linter.unusedSimpArgs false
set_option linter.unusedVariables false
section
theorem tgP : Try.prog.eqGuardType Try.prog.depth 128 = false := by kernel_rfl
theorem tgS : Try.prog.eqGuardType Try.prog.depth 131 = false := by kernel_rfl
theorem tgI : Try.prog.eqGuardType Try.prog.depth 144 = false := by kernel_rfl
theorem thP : Try.prog.stoodInHeld 128 = false := by kernel_rfl
theorem thS : Try.prog.stoodInHeld 131 = false := by kernel_rfl
theorem thI : Try.prog.stoodInHeld 144 = false := by kernel_rfl
theorem eqPg (a : Int) (b : Bool) : eqV Try.prog 9 128 (.agg [.int .u64 a, .bool b]) (.agg [.int .u64 a, .bool b]) = some true := by
 simp [eqV,Try.underlying128,Try.underlying30,Try.underlying4,thP,eqFs,partV]
theorem eqSl (a b c d : Int) : eqV Try.prog 9 131 (.agg [.int .i64 a, .int .u64 b, .int .u64 c, .int .i64 d]) (.agg [.int .i64 a, .int .u64 b, .int .u64 c, .int .i64 d]) = some true := by
 simp [eqV,Try.underlying131,Try.underlying30,Try.underlying3,thS,eqFs,partV]
theorem eqIn (a b c d : Int) : eqV Try.prog 9 144 (.agg [.int .i64 a, .int .i64 b, .int .i64 c, .int .i64 d]) (.agg [.int .i64 a, .int .i64 b, .int .i64 c, .int .i64 d]) = some true := by
 simp [eqV,Try.underlying144,Try.underlying3,Try.underlying2,thI,eqFs,partV]
theorem bne_self' {α : Type} [BEq α] [LawfulBEq α] (a : α) : (a != a) = false := by simp only [bne,beq_self_eq_true,Bool.not_true]
attribute [local simp] instA binOpA eqlA tgP tgS tgI eqPg eqSl eqIn
structure Rw (P : Program) (t : TypeId) where
 rows : List (List AV)
 ty : ∀ r ∈ rows,TyR P 8 t r
 bd : rows.length ≤ 10000
theorem Rw.ext {P : Program} {t : TypeId} {a b : Rw P t} (h : a.rows = b.rows) : a = b := by
 cases a; cases b; simp only at h; subst h; rfl
noncomputable def smS (t : TypeId) (sz : Nat) : SpecFn := mkS (fun d : Rw Try.prog t => [.list sz d.rows, .list sz d.rows]) fun _ => (.bool true,[])
theorem smS_eq (t : TypeId) (sz : Nat) (d : Rw Try.prog t) : smS t sz [.list sz d.rows, .list sz d.rows] [] = some (.bool true,[]) :=
 mkS_eq (enc:=fun d : Rw Try.prog t=>[AV.list sz d.rows, .list sz d.rows]) (fun x y _=>rfl) d
theorem smw_ok : FnC Try.prog 61 (smS 2 1) := by
 refine FnC.walk 61 (fn:=Try.f61) Try.func61 rfl (by kernel_rfl) fun d=>?_
 obtain ⟨rows,hty,hl⟩:=d
 change W _ (Ret _ _ (.bool true) []) _ _ ⟨26,[(0, .list 1 rows),(1, .list 1 rows)],[]⟩
 have cap : rows.length ≤ 9223372036854775807:=capT hl
 repeat (first | refine ZS ?_ | refine ZK tm no_specs rfl (by conv=>lhs; simp [cap]) fun _=>?_ | refine ZL tm no_specs rfl (by conv=>lhs; simp [cap]) fun _=>?_)
 refine W.loop rfl (ι:={ k : Nat // k ≤ rows.length }) (fun k=>⟨26,[(0, .list 1 rows),(1, .list 1 rows),(12, .int .i64 rows.length),(13, .int .i64 (k.1 : Nat))],[]⟩) (fun k=>rows.length - k.1) ⟨0,by omega⟩ (AS.le_of rfl ⟨rfl,rfl,rfl,rfl,trivial⟩ (fun _=>rfl)) ?_
 rintro ⟨k,hk⟩
 by_cases hk2 : k = rows.length
 · subst hk2
   repeat (first | refine ZS ?_ | refine ZK tm no_specs rfl (by conv=>lhs; simp [cap]) fun _=>?_ | refine ZL tm no_specs rfl (by conv=>lhs; simp [cap]) fun _=>?_)
   exact Yr
 · have hlt : k < rows.length:=by omega
   obtain ⟨r,hr⟩:=get_lt hlt
   have hm:=List.mem_of_getElem? hr
   obtain ⟨u,rfl, -⟩:=by simpa only [TyR_int Try.underlying2] using hty r hm
   have q1 : (k : Int) < rows.length:=by omega
   have q2 : ¬ rows.length ≤ k:=by omega
   have hw : IntKind.i64.wrap ((k : Int) + 1) = ((k + 1 : Nat) : Int):=w64 (by omega) (by omega)
   repeat (first | refine ZS ?_ | refine ZK tm no_specs rfl (by conv=>lhs; simp [q1,q2,hr,hw,cap,bne_self']) fun _=>?_ | refine ZL tm no_specs rfl (by conv=>lhs; simp [q1,q2,hr,hw,cap,bne_self']) fun _=>?_)
   exact ⟨⟨k + 1,hlt⟩,by dsimp only; omega,AS.le_of rfl ⟨rfl,rfl,rfl,rfl,trivial⟩ (fun _=>rfl)⟩
theorem smi_ok : FnC Try.prog 62 (smS 30 1) := by
 refine FnC.walk 62 (fn:=Try.f62) Try.func62 rfl (by kernel_rfl) fun d=>?_
 obtain ⟨rows,hty,hl⟩:=d
 change W _ (Ret _ _ (.bool true) []) _ _ ⟨26,[(0, .list 1 rows),(1, .list 1 rows)],[]⟩
 have cap : rows.length ≤ 9223372036854775807:=capT hl
 repeat (first | refine ZS ?_ | refine ZK tm no_specs rfl (by conv=>lhs; simp [cap]) fun _=>?_ | refine ZL tm no_specs rfl (by conv=>lhs; simp [cap]) fun _=>?_)
 refine W.loop rfl (ι:={ k : Nat // k ≤ rows.length }) (fun k=>⟨26,[(0, .list 1 rows),(1, .list 1 rows),(12, .int .i64 rows.length),(13, .int .i64 (k.1 : Nat))],[]⟩) (fun k=>rows.length - k.1) ⟨0,by omega⟩ (AS.le_of rfl ⟨rfl,rfl,rfl,rfl,trivial⟩ (fun _=>rfl)) ?_
 rintro ⟨k,hk⟩
 by_cases hk2 : k = rows.length
 · subst hk2
   repeat (first | refine ZS ?_ | refine ZK tm no_specs rfl (by conv=>lhs; simp [cap]) fun _=>?_ | refine ZL tm no_specs rfl (by conv=>lhs; simp [cap]) fun _=>?_)
   exact Yr
 · have hlt : k < rows.length:=by omega
   obtain ⟨r,hr⟩:=get_lt hlt
   have hm:=List.mem_of_getElem? hr
   obtain ⟨u,rfl, -⟩:=by simpa only [TyR_int Try.underlying30] using hty r hm
   have q1 : (k : Int) < rows.length:=by omega
   have q2 : ¬ rows.length ≤ k:=by omega
   have hw : IntKind.i64.wrap ((k : Int) + 1) = ((k + 1 : Nat) : Int):=w64 (by omega) (by omega)
   repeat (first | refine ZS ?_ | refine ZK tm no_specs rfl (by conv=>lhs; simp [q1,q2,hr,hw,cap,bne_self']) fun _=>?_ | refine ZL tm no_specs rfl (by conv=>lhs; simp [q1,q2,hr,hw,cap,bne_self']) fun _=>?_)
   exact ⟨⟨k + 1,hlt⟩,by dsimp only; omega,AS.le_of rfl ⟨rfl,rfl,rfl,rfl,trivial⟩ (fun _=>rfl)⟩
theorem sms_ok : FnC Try.prog 98 (smS 9 1) := by
 refine FnC.walk 98 (fn:=Try.f98) Try.func98 rfl (by kernel_rfl) fun d=>?_
 obtain ⟨rows,hty,hl⟩:=d
 change W _ (Ret _ _ (.bool true) []) _ _ ⟨26,[(0, .list 1 rows),(1, .list 1 rows)],[]⟩
 have cap : rows.length ≤ 9223372036854775807:=capT hl
 repeat (first | refine ZS ?_ | refine ZK tm no_specs rfl (by conv=>lhs; simp [cap]) fun _=>?_ | refine ZL tm no_specs rfl (by conv=>lhs; simp [cap]) fun _=>?_)
 refine W.loop rfl (ι:={ k : Nat // k ≤ rows.length }) (fun k=>⟨26,[(0, .list 1 rows),(1, .list 1 rows),(12, .int .i64 rows.length),(13, .int .i64 (k.1 : Nat))],[]⟩) (fun k=>rows.length - k.1) ⟨0,by omega⟩ (AS.le_of rfl ⟨rfl,rfl,rfl,rfl,trivial⟩ (fun _=>rfl)) ?_
 rintro ⟨k,hk⟩
 by_cases hk2 : k = rows.length
 · subst hk2
   repeat (first | refine ZS ?_ | refine ZK tm no_specs rfl (by conv=>lhs; simp [cap]) fun _=>?_ | refine ZL tm no_specs rfl (by conv=>lhs; simp [cap]) fun _=>?_)
   exact Yr
 · have hlt : k < rows.length:=by omega
   obtain ⟨r,hr⟩:=get_lt hlt
   have hm:=List.mem_of_getElem? hr
   obtain ⟨u,rfl, -⟩:=by simpa only [TyR_string Try.underlying9] using hty r hm
   have q1 : (k : Int) < rows.length:=by omega
   have q2 : ¬ rows.length ≤ k:=by omega
   have hw : IntKind.i64.wrap ((k : Int) + 1) = ((k + 1 : Nat) : Int):=w64 (by omega) (by omega)
   repeat (first | refine ZS ?_ | refine ZK tm no_specs rfl (by conv=>lhs; simp [q1,q2,hr,hw,cap,bne_self']) fun _=>?_ | refine ZL tm no_specs rfl (by conv=>lhs; simp [q1,q2,hr,hw,cap,bne_self']) fun _=>?_)
   exact ⟨⟨k + 1,hlt⟩,by dsimp only; omega,AS.le_of rfl ⟨rfl,rfl,rfl,rfl,trivial⟩ (fun _=>rfl)⟩
theorem smp_ok : FnC Try.prog 87 (smS 128 2) := by
 refine FnC.walk 87 (fn:=Try.f87) Try.func87 rfl (by kernel_rfl) fun d=>?_
 obtain ⟨rows,hty,hl⟩:=d
 change W _ (Ret _ _ (.bool true) []) _ _ ⟨26,[(0, .list 2 rows),(1, .list 2 rows)],[]⟩
 have cap : rows.length ≤ 9223372036854775807:=capT hl
 repeat (first | refine ZS ?_ | refine ZK tm no_specs rfl (by conv=>lhs; simp [cap]) fun _=>?_ | refine ZL tm no_specs rfl (by conv=>lhs; simp [cap]) fun _=>?_)
 refine W.loop rfl (ι:={ k : Nat // k ≤ rows.length }) (fun k=>⟨26,[(0, .list 2 rows),(1, .list 2 rows),(12, .int .i64 rows.length),(13, .int .i64 (k.1 : Nat))],[]⟩) (fun k=>rows.length - k.1) ⟨0,by omega⟩ (AS.le_of rfl ⟨rfl,rfl,rfl,rfl,trivial⟩ (fun _=>rfl)) ?_
 rintro ⟨k,hk⟩
 by_cases hk2 : k = rows.length
 · subst hk2
   repeat (first | refine ZS ?_ | refine ZK tm no_specs rfl (by conv=>lhs; simp [cap]) fun _=>?_ | refine ZL tm no_specs rfl (by conv=>lhs; simp [cap]) fun _=>?_)
   exact Yr
 · have hlt : k < rows.length:=by omega
   obtain ⟨r,hr⟩:=get_lt hlt
   have hm:=List.mem_of_getElem? hr
   obtain ⟨u1,u2,rfl, -⟩:=viewPageRef (hty r hm)
   have q1 : (k : Int) < rows.length:=by omega
   have q2 : ¬ rows.length ≤ k:=by omega
   have hw : IntKind.i64.wrap ((k : Int) + 1) = ((k + 1 : Nat) : Int):=w64 (by omega) (by omega)
   repeat (first | refine ZS ?_ | refine ZK tm no_specs rfl (by conv=>lhs; simp [q1,q2,hr,hw,cap,bne_self']) fun _=>?_ | refine ZL tm no_specs rfl (by conv=>lhs; simp [q1,q2,hr,hw,cap,bne_self']) fun _=>?_)
   exact ⟨⟨k + 1,hlt⟩,by dsimp only; omega,AS.le_of rfl ⟨rfl,rfl,rfl,rfl,trivial⟩ (fun _=>rfl)⟩
theorem sml_ok : FnC Try.prog 88 (smS 131 4) := by
 refine FnC.walk 88 (fn:=Try.f88) Try.func88 rfl (by kernel_rfl) fun d=>?_
 obtain ⟨rows,hty,hl⟩:=d
 change W _ (Ret _ _ (.bool true) []) _ _ ⟨26,[(0, .list 4 rows),(1, .list 4 rows)],[]⟩
 have cap : rows.length ≤ 9223372036854775807:=capT hl
 repeat (first | refine ZS ?_ | refine ZK tm no_specs rfl (by conv=>lhs; simp [cap]) fun _=>?_ | refine ZL tm no_specs rfl (by conv=>lhs; simp [cap]) fun _=>?_)
 refine W.loop rfl (ι:={ k : Nat // k ≤ rows.length }) (fun k=>⟨26,[(0, .list 4 rows),(1, .list 4 rows),(12, .int .i64 rows.length),(13, .int .i64 (k.1 : Nat))],[]⟩) (fun k=>rows.length - k.1) ⟨0,by omega⟩ (AS.le_of rfl ⟨rfl,rfl,rfl,rfl,trivial⟩ (fun _=>rfl)) ?_
 rintro ⟨k,hk⟩
 by_cases hk2 : k = rows.length
 · subst hk2
   repeat (first | refine ZS ?_ | refine ZK tm no_specs rfl (by conv=>lhs; simp [cap]) fun _=>?_ | refine ZL tm no_specs rfl (by conv=>lhs; simp [cap]) fun _=>?_)
   exact Yr
 · have hlt : k < rows.length:=by omega
   obtain ⟨r,hr⟩:=get_lt hlt
   have hm:=List.mem_of_getElem? hr
   obtain ⟨u1,u2,u3,u4,rfl, -⟩:=viewSlot (hty r hm)
   have q1 : (k : Int) < rows.length:=by omega
   have q2 : ¬ rows.length ≤ k:=by omega
   have hw : IntKind.i64.wrap ((k : Int) + 1) = ((k + 1 : Nat) : Int):=w64 (by omega) (by omega)
   repeat (first | refine ZS ?_ | refine ZK tm no_specs rfl (by conv=>lhs; simp [q1,q2,hr,hw,cap,bne_self']) fun _=>?_ | refine ZL tm no_specs rfl (by conv=>lhs; simp [q1,q2,hr,hw,cap,bne_self']) fun _=>?_)
   exact ⟨⟨k + 1,hlt⟩,by dsimp only; omega,AS.le_of rfl ⟨rfl,rfl,rfl,rfl,trivial⟩ (fun _=>rfl)⟩
structure Nms (P : Program) (t : TypeId) where
 rows : List (List AV)
 ty : ∀ r ∈ rows,TyR P 8 t r
 bd : rows.length ≤ 10000
 bs : ∀ r ∈ rows,bdL 10000 r = true
noncomputable def snS : SpecFn := mkS (fun d : Nms Try.prog 106 => [.list 3 d.rows, .list 3 d.rows]) fun _ => (.bool true,[])
theorem snS_eq (d : Nms Try.prog 106) : snS [.list 3 d.rows, .list 3 d.rows] [] = some (.bool true,[]) :=
 mkS_eq (enc:=fun d : Nms Try.prog 106=>[AV.list 3 d.rows, .list 3 d.rows]) (fun x y _=>rfl) d
theorem sna_ok : FnC Try.prog 63 snS := by
 refine FnC.walk 63 (fn:=Try.f63) Try.func63 rfl (by kernel_rfl) fun d=>?_
 obtain ⟨rows,hty,hl,hbs⟩:=d
 change W _ (Ret _ _ (.bool true) []) _ _ ⟨84,[(0, .list 3 rows),(1, .list 3 rows)],[]⟩
 have cap : rows.length ≤ 9223372036854775807:=capT hl
 repeat (first | refine ZS ?_ | refine ZK tm no_specs rfl (by conv=>lhs; simp [cap]) fun _=>?_ | refine ZL tm no_specs rfl (by conv=>lhs; simp [cap]) fun _=>?_)
 refine W.loop rfl (ι:={ k : Nat // k ≤ rows.length }) (fun k=>⟨84,[(0, .list 3 rows),(1, .list 3 rows),(13, .int .i64 rows.length),(14, .int .i64 (k.1 : Nat))],[]⟩) (fun k=>rows.length - k.1) ⟨0,by omega⟩ (AS.le_of rfl ⟨rfl,rfl,rfl,rfl,trivial⟩ (fun _=>rfl)) ?_
 rintro ⟨k,hk⟩
 by_cases hk2 : k = rows.length
 · subst hk2
   repeat (first | refine ZS ?_ | refine ZK tm no_specs rfl (by conv=>lhs; simp [cap]) fun _=>?_ | refine ZL tm no_specs rfl (by conv=>lhs; simp [cap]) fun _=>?_)
   exact Yr
 · have hlt : k < rows.length:=by omega
   obtain ⟨r,hr⟩:=get_lt hlt
   have hm:=List.mem_of_getElem? hr
   obtain ⟨s,n,ids,rfl,hi⟩:=nameRow (hty r hm) (hbs r hm)
   obtain ⟨s',n',ids',e, -,hids⟩:=viewName (hty _ hm)
   simp only [List.cons.injEq,AV.str.injEq,AV.int.injEq,AV.list.injEq,true_and,and_true] at e
   obtain ⟨rfl,rfl,rfl⟩:=e
   have q1 : (k : Int) < rows.length:=by omega
   have q2 : ¬ rows.length ≤ k:=by omega
   have ci : ids.length ≤ 9223372036854775807:=capT hi
   have hw : IntKind.i64.wrap ((k : Int) + 1) = ((k + 1 : Nat) : Int):=w64 (by omega) (by omega)
   repeat (first | refine ZS ?_ | refine ZK tm no_specs rfl (by conv=>lhs; simp [q1,q2,hr,cap,ci,bne_self']) fun _=>?_ | refine ZL tm no_specs rfl (by conv=>lhs; simp [q1,q2,hr,cap,ci,bne_self']) fun _=>?_)
   refine W.loop rfl (ι:={ j : Nat // j ≤ ids.length }) (fun j=>⟨84,[(0, .list 3 rows),(1, .list 3 rows),(5, .int .i64 (k : Nat)),(13, .int .i64 rows.length),(14, .int .i64 (k : Nat)),(61, .int .i64 ids.length),(62, .int .i64 (j.1 : Nat))],[]⟩) (fun j=>ids.length - j.1) ⟨0,by omega⟩ (AS.le_of rfl ⟨rfl,rfl,rfl,rfl,rfl,rfl,rfl,trivial⟩ (fun _=>rfl)) ?_
   rintro ⟨j,hj⟩
   by_cases hj2 : j = ids.length
   · subst hj2
     repeat (first | refine ZS ?_ | refine ZK tm no_specs rfl (by conv=>lhs; simp [cap,ci,hw]) fun _=>?_ | refine ZL tm no_specs rfl (by conv=>lhs; simp [cap,ci,hw]) fun _=>?_)
     exact ⟨⟨k + 1,hlt⟩,by dsimp only; omega,AS.le_of rfl ⟨rfl,rfl,rfl,rfl,trivial⟩ (fun _=>rfl)⟩
   · have hlj : j < ids.length:=by omega
     obtain ⟨u,hu⟩:=get_lt hlj
     have hmu:=List.mem_of_getElem? hu
     obtain ⟨u,rfl, -⟩:=by simpa only [TyR_int Try.underlying30] using hids u hmu
     have q3 : (j : Int) < ids.length:=by omega
     have q4 : ¬ ids.length ≤ j:=by omega
     have hv : IntKind.i64.wrap ((j : Int) + 1) = ((j + 1 : Nat) : Int):=w64 (by omega) (by omega)
     repeat (first | refine ZS ?_ | refine ZK tm no_specs rfl (by conv=>lhs; simp [q1,q2,q3,q4,hr,hu,hv,cap,ci,bne_self']) fun _=>?_ | refine ZL tm no_specs rfl (by conv=>lhs; simp [q1,q2,q3,q4,hr,hu,hv,cap,ci,bne_self']) fun _=>?_)
     exact ⟨⟨j + 1,hlj⟩,by dsimp only; omega,AS.le_of rfl ⟨rfl,rfl,rfl,rfl,rfl,rfl,rfl,trivial⟩ (fun _=>rfl)⟩
noncomputable def spr_specs : NL Spec := [(98,⟨1,smS 9 1⟩)]
theorem spr_specs_ok : ∀ p ∈ spr_specs,FnC Try.prog p.1 p.2.fn := by
 simp only [spr_specs,List.mem_cons,List.not_mem_nil,or_false]
 rintro p rfl
 exact sms_ok
attribute [local simp] spr_specs
noncomputable def sprS : SpecFn := mkS (fun d : Prg => [.agg d.cells, .agg d.cells]) fun _ => (.bool true,[])
theorem sprS_eq (d : Prg) : sprS [.agg d.cells, .agg d.cells] [] = some (.bool true,[]) :=
 mkS_eq (enc:=fun d : Prg=>[AV.agg d.cells, .agg d.cells]) (fun x y _=>rfl) d
theorem spr_ok : FnC Try.prog 86 sprS := by
 refine FnC.walk 86 (fn:=Try.f86) Try.func86 rfl (by kernel_rfl) fun d=>?_
 obtain ⟨cs,ty,bd⟩:=d
 obtain ⟨x0,x1,x2,rfl,h0,h1, -⟩:=viewProgram ty
 simp only [bdL,bdV,Bool.and_eq_true,decide_eq_true_eq,Bool.and_true] at bd
 have cap : x0.length ≤ 9223372036854775807:=capT bd.1.1
 have c1:=smS_eq 9 1 ⟨x1,h1,bd.2.1⟩
 dsimp only at c1
 change W _ (Ret _ _ (.bool true) []) _ _ ⟨46,[(0, .agg [.list 4 x0, .list 1 x1, .int .i64 x2]),(1, .agg [.list 4 x0, .list 1 x1, .int .i64 x2])],[]⟩
 have hl:=bd.1.1
 clear bd ty h1
 repeat (first | refine ZS ?_ | refine ZK tm spr_specs_ok rfl (by conv=>lhs; simp [cap,c1,bne_self']) fun _=>?_ | refine ZL tm spr_specs_ok rfl (by conv=>lhs; simp [cap,c1,bne_self']) fun _=>?_)
 refine W.loop rfl (ι:={ k : Nat // k ≤ x0.length }) (fun k=>⟨46,[(2, .ptr 48 1 0 0),(3, .ptr 64 1 0 0),(30, .int .i64 x0.length),(31, .int .i64 (k.1 : Nat))],_⟩) (fun k=>x0.length - k.1) ⟨0,by omega⟩ (AS.le_of rfl ⟨rfl,rfl,rfl,rfl,trivial⟩ (fun _=>rfl)) ?_
 rintro ⟨k,hk⟩
 by_cases hk2 : k = x0.length
 · subst hk2
   repeat (first | refine ZS ?_ | refine ZK tm spr_specs_ok rfl (by conv=>lhs; simp [cap]) fun _=>?_ | refine ZL tm spr_specs_ok rfl (by conv=>lhs; simp [cap]) fun _=>?_)
   exact Yr
 · have hlt : k < x0.length:=by omega
   obtain ⟨r,hr⟩:=get_lt hlt
   have hm:=List.mem_of_getElem? hr
   obtain ⟨u1,u2,u3,u4,rfl, -⟩:=viewInstr (h0 r hm)
   have q1 : (k : Int) < x0.length:=by omega
   have q2 : ¬ x0.length ≤ k:=by omega
   have hw : IntKind.i64.wrap ((k : Int) + 1) = ((k + 1 : Nat) : Int):=w64 (by omega) (by omega)
   repeat (first | refine ZS ?_ | refine ZK tm spr_specs_ok rfl (by conv=>lhs; simp [q1,q2,hr,hw,cap,bne_self']) fun _=>?_ | refine ZL tm spr_specs_ok rfl (by conv=>lhs; simp [q1,q2,hr,hw,cap,bne_self']) fun _=>?_)
   exact ⟨⟨k + 1,hlt⟩,by dsimp only; omega,AS.le_of rfl ⟨rfl,rfl,rfl,rfl,trivial⟩ (fun _=>rfl)⟩
end
section
theorem bytes_of {rows : List (List AV)} : (∀ r ∈ rows,TyR Try.prog 8 5 r) → ∃ ns,bytesA rows = some ns := by
 induction rows with
 | nil=>exact fun _=>⟨[],rfl⟩
 | cons r rs ih =>
   intro h
   obtain ⟨ns,hn⟩:=ih fun r hr=>h r (List.mem_cons_of_mem _ hr)
   obtain ⟨u,rfl, -⟩:=by simpa only [TyR_int Try.underlying5] using h r (by simp)
   exact ⟨u :: ns,by simp only [bytesA,hn,Option.map_some]⟩
theorem eqCpuS (a b c d e f g h i : Int) : eqV Try.prog 9 38 (.agg [.int .i64 a, .int .i64 b, .int .i64 c, .int .i64 d, .int .i64 e, .int .i64 f, .int .i64 g, .int .i64 h, .int .i64 i]) (.agg [.int .i64 a, .int .i64 b, .int .i64 c, .int .i64 d, .int .i64 e, .int .i64 f, .int .i64 g, .int .i64 h, .int .i64 i]) = some true := by
 simp [eqCpu]
theorem eqEndsS (a b : Int) : eqV Try.prog 9 45 (.agg [.int .i64 a, .int .i64 b]) (.agg [.int .i64 a, .int .i64 b]) = some true := by
 simp [eqEnds]
attribute [local simp] instA binOpA eqlA tgC tgE eqCpuS eqEndsS
noncomputable def smp_specs : NL Spec := [(62,⟨1,smS 30 1⟩),(86,⟨1,sprS⟩),(87,⟨1,smS 128 2⟩),(88,⟨1,smS 131 4⟩)]
theorem smp_specs_ok : ∀ p ∈ smp_specs,FnC Try.prog p.1 p.2.fn := by
 simp only [smp_specs,List.mem_cons,List.not_mem_nil,or_false]
 rintro p (rfl | rfl | rfl | rfl)
 · exact smi_ok
 · exact spr_ok
 · exact smp_ok
 · exact sml_ok
attribute [local simp] smp_specs
noncomputable def spcS : SpecFn := mkS (fun d : Prc => [.agg d.cells, .agg d.cells]) fun _ => (.bool true,[])
theorem spcS_eq (d : Prc) : spcS [.agg d.cells, .agg d.cells] [] = some (.bool true,[]) :=
 mkS_eq (enc:=fun d : Prc=>[AV.agg d.cells, .agg d.cells]) (fun x y _=>rfl) d
theorem spc_ok : FnC Try.prog 60 spcS := by
 refine FnC.walk 60 (fn:=Try.f60) Try.func60 rfl (by kernel_rfl) fun d=>?_
 obtain ⟨cs,ty,bd⟩:=d
 obtain ⟨p0,p1,p2,p3,p4,p5,p6,p7,p8,p9,rfl, -, -,h2,h3,h4,h5,h6, -, -, -⟩:=viewProcess ty
 have bp : bdL 10000 p3 = true:=by simp only [bdL,bdV,bdL_append,Bool.and_eq_true,Bool.true_and,true_and] at bd; exact bd.2.1
 have cP:=sprS_eq ⟨p3,h3,bp⟩
 obtain ⟨q0,q1,q2,rfl, -, -, -⟩:=viewProgram h3
 obtain ⟨z0,z1,z2,z3,z4,z5,z6,z7,z8,rfl, -⟩:=viewCPU h4
 simp only [List.cons_append,List.nil_append,bdL,bdV,Bool.and_eq_true,decide_eq_true_eq,Bool.and_true,Bool.true_and,true_and] at bd
 have c2:=smS_eq 30 1 ⟨p2,h2,by simp [bd]⟩
 have c5:=smS_eq 128 2 ⟨p5,h5,by simp [bd]⟩
 have c6:=smS_eq 131 4 ⟨p6,h6,by simp [bd]⟩
 dsimp only at cP c2 c5 c6
 change W _ (Ret _ _ (.bool true) []) _ _ ⟨73,[(0, .agg [.int .i64 p0, .int .u64 p1, .list 1 p2, .list 4 q0, .list 1 q1, .int .i64 q2, .int .i64 z0, .int .i64 z1, .int .i64 z2, .int .i64 z3, .int .i64 z4, .int .i64 z5, .int .i64 z6, .int .i64 z7, .int .i64 z8, .list 2 p5, .list 4 p6, .int .i64 p7, .int .i64 p8, .int .i64 p9]),(1, .agg [.int .i64 p0, .int .u64 p1, .list 1 p2, .list 4 q0, .list 1 q1, .int .i64 q2, .int .i64 z0, .int .i64 z1, .int .i64 z2, .int .i64 z3, .int .i64 z4, .int .i64 z5, .int .i64 z6, .int .i64 z7, .int .i64 z8, .list 2 p5, .list 4 p6, .int .i64 p7, .int .i64 p8, .int .i64 p9])],[]⟩
 clear bd ty h2 h3 h4 h5 h6 bp
 repeat (first | refine ZS ?_ | refine ZK tm smp_specs_ok rfl (by conv=>lhs; simp [cP,c2,c5,c6]) fun _=>?_ | refine ZL tm smp_specs_ok rfl (by conv=>lhs; simp [cP,c2,c5,c6]) fun _=>?_)
 exact Yr
noncomputable def sob_specs : NL Spec := [(62,⟨1,smS 30 1⟩),(60,⟨1,spcS⟩),(61,⟨1,smS 2 1⟩),(63,⟨1,snS⟩)]
theorem sob_specs_ok : ∀ p ∈ sob_specs,FnC Try.prog p.1 p.2.fn := by
 simp only [sob_specs,List.mem_cons,List.not_mem_nil,or_false]
 rintro p (rfl | rfl | rfl | rfl)
 · exact smi_ok
 · exact spc_ok
 · exact smw_ok
 · exact sna_ok
attribute [local simp] sob_specs
noncomputable def sobS : SpecFn := mkS (fun d : Ob => [.agg d.cells, .agg d.cells]) fun _ => (.bool true,[])
theorem sobS_eq (d : Ob) : sobS [.agg d.cells, .agg d.cells] [] = some (.bool true,[]) :=
 mkS_eq (enc:=fun d : Ob=>[AV.agg d.cells, .agg d.cells]) (fun x y _=>rfl) d
theorem sob_ok : FnC Try.prog 29 sobS := by
 refine FnC.walk 29 (fn:=Try.f29) Try.func29 rfl (by kernel_rfl) fun d=>?_
 obtain ⟨cs,ty,bd⟩:=d
 obtain ⟨x0,x1,x2,xp,x4,x5,x6,x7,x8,x9,x10,x11,x12,x13,x14,x15,x16,rfl, -, -, -,hp,h4,h5, -, -, -, -,h10,h11,h12, -, -, -,h16⟩:=viewObject ty
 have bp : bdL 10000 xp = true:=by simp only [bdL,bdV,bdL_append,Bool.and_eq_true,Bool.true_and,true_and] at bd; exact bd.1
 have cP:=spcS_eq ⟨xp,hp,bp⟩
 obtain ⟨p0,p1,p2,p3,p4,p5,p6,p7,p8,p9,rfl, -, -, -,h3,hc, -, -, -, -, -⟩:=viewProcess hp
 obtain ⟨q0,q1,q2,rfl, -, -, -⟩:=viewProgram h3
 obtain ⟨z0,z1,z2,z3,z4,z5,z6,z7,z8,rfl, -⟩:=viewCPU hc
 simp only [List.cons_append,List.nil_append,bdL,bdV,Bool.and_eq_true,decide_eq_true_eq,Bool.and_true,Bool.true_and,true_and] at bd
 have c4:=smS_eq 2 1 ⟨x4,h4,by simp [bd]⟩
 have c10:=smS_eq 30 1 ⟨x10,h10,by simp [bd]⟩
 have c16:=snS_eq ⟨x16,h16,by simp [bd],fun r hr=>bdRows_mem (by simp [bd]) hr⟩
 obtain ⟨n5,b5⟩:=bytes_of h5
 obtain ⟨n11,b11⟩:=bytes_of h11
 obtain ⟨n12,b12⟩:=bytes_of h12
 dsimp only [List.cons_append,List.nil_append] at cP c4 c10 c16
 change W _ (Ret _ _ (.bool true) []) _ _ ⟨125,[(0, .agg [.int .u64 x0, .int .i64 x1, .int .i64 x2, .int .i64 p0, .int .u64 p1, .list 1 p2, .list 4 q0, .list 1 q1, .int .i64 q2, .int .i64 z0, .int .i64 z1, .int .i64 z2, .int .i64 z3, .int .i64 z4, .int .i64 z5, .int .i64 z6, .int .i64 z7, .int .i64 z8, .list 2 p5, .list 4 p6, .int .i64 p7, .int .i64 p8, .int .i64 p9, .list 1 x4, .list 1 x5, .int .i64 x6, .int .u64 x7, .int .i64 x8, .int .i64 x9, .list 1 x10, .list 1 x11, .list 1 x12, .int .i64 x13, .int .i64 x14, .int .i64 x15, .list 3 x16]),(1, .agg [.int .u64 x0, .int .i64 x1, .int .i64 x2, .int .i64 p0, .int .u64 p1, .list 1 p2, .list 4 q0, .list 1 q1, .int .i64 q2, .int .i64 z0, .int .i64 z1, .int .i64 z2, .int .i64 z3, .int .i64 z4, .int .i64 z5, .int .i64 z6, .int .i64 z7, .int .i64 z8, .list 2 p5, .list 4 p6, .int .i64 p7, .int .i64 p8, .int .i64 p9, .list 1 x4, .list 1 x5, .int .i64 x6, .int .u64 x7, .int .i64 x8, .int .i64 x9, .list 1 x10, .list 1 x11, .list 1 x12, .int .i64 x13, .int .i64 x14, .int .i64 x15, .list 3 x16])],[]⟩
 clear bd ty hp h3 hc h4 h5 h10 h11 h12 h16 bp
 repeat (first | refine ZS ?_ | refine ZK tm sob_specs_ok rfl (by conv=>lhs; simp [cP,c4,c10,c16,b5,b11,b12]) fun _=>?_ | refine ZL tm sob_specs_ok rfl (by conv=>lhs; simp [cP,c4,c10,c16,b5,b11,b12]) fun _=>?_)
 exact Yr
end
section
theorem obLeafs : (leafs Try.prog 48).length = 36 := by kernel_rfl
@[simp] theorem ob_len (o : Ob) : o.cells.length = 36 := o.len'.trans obLeafs
@[simp] theorem ob_drop (o : Ob) (l : List AV) (n : Nat) (h : 36 ≤ n) : (o.cells ++ l).drop n = l.drop (n - 36) := by
 rw [List.drop_append,ob_len,List.drop_eq_nil_of_le (by rw [ob_len]; omega),List.nil_append]
@[simp] theorem ob_take (o : Ob) (l : List AV) (n : Nat) (h : 36 ≤ n) : (o.cells ++ l).take n = o.cells ++ l.take (n - 36) := by
 rw [List.take_append,ob_len,List.take_of_length_le (by rw [ob_len]; omega)]
@[simp] theorem ob_take0 (o : Ob) : o.cells.take 36 = o.cells := List.take_of_length_le (by rw [ob_len]; omega)
@[simp] theorem ob_get (o : Ob) (l : List AV) (n : Nat) (h : 36 ≤ n) : (o.cells ++ l)[n]? = l[n - 36]? := by
 rw [List.getElem?_append_right (by rw [ob_len]; omega),ob_len]
structure Tok where
 id : Int
 mode : Int
 obj : Ob
 want : Int
 pin : Bool
 due : Bool
@[simp] def Tok.c (t : Tok) : List AV := .int .u64 t.id :: .int .i64 t.mode :: (t.obj.cells ++ [.int .i64 t.want, .bool t.pin, .bool t.due])
theorem Tok.c_inj {s t : Tok} (h : s.c = t.c) : s = t := by
 obtain ⟨a,b,o,c,d,e⟩:=s
 obtain ⟨a',b',o',c',d',e'⟩:=t
 simp only [Tok.c,List.cons.injEq,AV.int.injEq,true_and] at h
 obtain ⟨rfl,rfl,h⟩:=h
 obtain ⟨h1,h2⟩:=List.append_inj h (by simp)
 simp only [List.cons.injEq,AV.int.injEq,AV.bool.injEq,true_and,and_true] at h2
 obtain ⟨rfl,rfl,rfl⟩:=h2
 rw [Td.ext h1]
theorem rows_inj {s t : List Tok} (h : s.map Tok.c = t.map Tok.c) : s = t := by
 induction s generalizing t with
 | nil=>cases t with
   | nil=>rfl
   | cons=>simp at h
 | cons x r ih =>
   cases t with
   | nil=>simp at h
   | cons y q =>
     simp only [List.map_cons,List.cons.injEq] at h
     rw [Tok.c_inj h.1,ih h.2]
structure Tks where
 node : Int
 toks : List Tok
 bd : toks.length ≤ 9000
def Tks.v (d : Tks) : AV := .agg [.int .i64 d.node, .list 41 (d.toks.map Tok.c)]
theorem Tks.v_inj {s t : Tks} (h : s.v = t.v) : s = t := by
 obtain ⟨a,l,b⟩:=s
 obtain ⟨a',l',b'⟩:=t
 simp only [Tks.v,AV.agg.injEq,List.cons.injEq,AV.int.injEq,AV.list.injEq,true_and,and_true] at h
 obtain ⟨rfl,h⟩:=h
 cases rows_inj h
 rfl
def tyFsP (q : TypeId → List AV → Option (List AV)) : List TypeId → List AV → Option (List AV)
 | [],xs=>some xs
 | t :: r,xs=>(q t xs).bind (tyFsP q r)
def tyB : List AV → Option (List AV)
 | .bool _ :: r=>some r
 | _=>none
def tyI (k : IntKind) : List AV → Option (List AV)
 | .int k' m :: r=>if k = k' ∧ (Lit.int k m).wf = true then some r else none
 | _=>none
def tyS (n : Nat) : List AV → Option (List AV)
 | .list sz [] :: r=>if sz = n then some r else none
 | _=>none
def tyP (P : Program) : Nat → TypeId → List AV → Option (List AV)
 | 0,_,_=>none
 | n + 1,t,xs=>match P.underlying t with
   | some .bool=>tyB xs
   | some (.int k)=>tyI k xs
   | some (.slice e)=>tyS (P.cellsOf e) xs
   | some (.struct fs)=>tyFsP (tyP P n) (fs.toList.map (·.type)) xs
   | some (.array m e)=>tyFsP (tyP P n) (List.replicate m e) xs
   | _=>none
theorem tyFsP_ok {q : TypeId → List AV → Option (List AV)} {Q : TypeId → List AV → Prop} (h : ∀ t xs r,q t xs = some r → ∃ a,xs = a ++ r ∧ Q t a) : ∀ (ts : List TypeId) (xs r : List AV),tyFsP q ts xs = some r → ∃ a,xs = a ++ r ∧ TyFs Q ts a
 | [],xs,r,e=>by
   simp only [tyFsP,Option.some.injEq] at e
   subst e
   exact ⟨[],rfl,rfl⟩
 | t :: ts,xs,r,e=>by
   simp only [tyFsP] at e
   obtain ⟨m,e1,e2⟩:=Option.bind_eq_some_iff.1 e
   obtain ⟨a,rfl,ha⟩:=h _ _ _ e1
   obtain ⟨b,rfl,hb⟩:=tyFsP_ok h ts m r e2
   exact ⟨a ++ b,by rw [List.append_assoc],a,b,rfl,ha,hb⟩
theorem tyP_ok {P : Program} : ∀ (n : Nat) (t : TypeId) (xs r : List AV),tyP P n t xs = some r → ∃ a,xs = a ++ r ∧ TyR P n t a
 | 0,t,xs,r,h=>by simp [tyP] at h
 | n + 1,t,xs,r,h=>by
   rw [tyP] at h
   split at h
   · rename_i hu
     unfold tyB at h
     split at h
     · rename_i b r'
       cases h
       exact ⟨[.bool b],rfl,by simp only [TyR,hu]; exact ⟨b,rfl⟩⟩
     · cases h
   · rename_i k hu
     unfold tyI at h
     split at h
     · rename_i k' m r'
       split at h
       · rename_i hk
         obtain ⟨rfl,hw⟩:=hk
         cases h
         exact ⟨[.int k m],rfl,by simp only [TyR,hu]; exact ⟨m,rfl,hw⟩⟩
       · cases h
     · cases h
   · rename_i e hu
     unfold tyS at h
     split at h
     · rename_i sz r'
       split at h
       · rename_i hk
         subst hk
         cases h
         refine ⟨[.list _ []],rfl, ?_⟩
         simp only [TyR,hu]
         exact ⟨[],rfl,by simp [maxLen],by simp⟩
       · cases h
     · cases h
   · rename_i fs hu
     obtain ⟨a,e1,e2⟩:=tyFsP_ok (Q:=TyR P n) (fun t xs r h=>tyP_ok n t xs r h) _ _ _ h
     refine ⟨a,e1, ?_⟩
     simp only [TyR,hu]
     exact e2
   · rename_i m e hu
     obtain ⟨a,e1,e2⟩:=tyFsP_ok (Q:=TyR P n) (fun t xs r h=>tyP_ok n t xs r h) _ _ _ h
     refine ⟨a,e1, ?_⟩
     simp only [TyR,hu]
     exact e2
   · cases h
def zN : List AV := [.int .u64 0, .int .i64 0, .int .i64 0, .int .i64 0, .int .u64 0, .list 1 [], .list 4 [], .list 1 [], .int .i64 0, .int .i64 0, .int .i64 0, .int .i64 0, .int .i64 0, .int .i64 0, .int .i64 0, .int .i64 0, .int .i64 0, .int .i64 0, .list 2 [], .list 4 [], .int .i64 0, .int .i64 0, .int .i64 0, .list 1 [], .list 1 [], .int .i64 0, .int .u64 0, .int .i64 0, .int .i64 0, .list 1 [], .list 1 [], .list 1 [], .int .i64 0, .int .i64 0, .int .i64 0, .list 3 []]
theorem zN_eq : nrmL Try.prog (leafs Try.prog 48) zO = zN := by kernel_rfl
theorem zN_p : tyP Try.prog 8 48 zN = some [] := by kernel_rfl
theorem zObTy : TyR Try.prog 8 48 zN := by
 obtain ⟨a,h1,h2⟩:=tyP_ok 8 _ _ _ zN_p
 rw [List.append_nil] at h1
 rw [h1]
 exact h2
theorem zN_b : bdL 10000 zN = true := by kernel_rfl
def zOb : Ob := ⟨zN,zObTy,zN_b⟩
def fnd (id : Int) : List Tok → Option Tok
 | []=>none
 | t :: r=>if t.id = id then some t else fnd id r
attribute [local simp] instA
end
section
def putL (t : Tok) : Bool → List Tok → List Tok
 | done,[]=>if done = true then [] else [t]
 | done,r :: rs=>(if done = false ∧ t.id ≤ r.id then [t] else []) ++ ((if r.id = t.id then [] else [r]) ++ putL t (done || decide (t.id ≤ r.id)) rs)
def Tok.gone (t : Tok) : Bool := t.mode == 0 && t.want == 0
def put (t : Tok) (l : List Tok) : List Tok := putL t t.gone l
attribute [local simp] instA
theorem m1 : (1 : Nat) ≤ maxLen := by decide
theorem m2 : (2 : Nat) ≤ maxLen := by decide
theorem first_all {n : Nat} {l : List (List AV)} (h : l.length = n) : firstRows n l = l := by
 subst h
 simp [firstRows]
end
section
def okM (m : Int) : Bool := m == 1 || m == 2
def okN (m : Int) : Bool := decide (0 ≤ m) && decide (m ≤ 127)
noncomputable def boS (f : Int → Bool) : SpecFn := mkS (fun d : Int => [.int .i64 d]) fun d => (.bool (f d),[])
theorem boS_eq (f : Int → Bool) (d : Int) : boS f [.int .i64 d] [] = some (.bool (f d),[]) :=
 mkS_eq (enc:=fun d : Int=>[AV.int .i64 d]) (fun x y h=>by
   simp only [List.cons.injEq,AV.int.injEq,true_and,and_true] at h
   rw [h]) d
attribute [local simp] instA
theorem ob_view (o : Ob) : ∃ i r,o.cells = .int .u64 i :: r := by
 obtain ⟨x0,x1,x2,xp,x4,x5,x6,x7,x8,x9,x10,x11,x12,x13,x14,x15,x16,h, -⟩:=viewObject o.ty
 exact ⟨x0,_,h⟩
noncomputable def oid (o : Ob) : Int := (ob_view o).choose
theorem oid_eq (o : Ob) : ∃ r,o.cells = .int .u64 (oid o) :: r := (ob_view o).choose_spec
def hdA : List AV → AP AV
 | x :: _ => .ret x
 | [] => .fail
theorem mkv_hd (P : Program) (t : TypeId) (cells : List AV) : mkv P t cells = match aggT P t with
 | some true=>match szOf P t with
   | some s=>if s ≤ cells.length then .ret (.agg (cells.take s)) else .fail
   | none => .fail
 | some false=>hdA cells
 | none => .fail:=by
 unfold mkv hdA
 rfl
@[local simp] theorem hdA_cons (x : AV) (r : List AV) : hdA (x :: r) = .ret x := rfl
@[local simp] theorem hdA_ob (o : Ob) (l : List AV) : hdA (o.cells ++ l) = .ret (.int .u64 (oid o)) := by
 obtain ⟨r,h⟩:=oid_eq o
 rw [h]
 rfl
@[local simp] theorem hdA_ob' (o : Ob) : hdA o.cells = .ret (.int .u64 (oid o)) := by
 obtain ⟨r,h⟩:=oid_eq o
 rw [h]
 rfl
attribute [-simp] mkv
attribute [local simp] mkv_hd
noncomputable def fineR (t : Tok) : Bool := t.id != 0 && ((t.mode == 0 || okM t.mode) && ((t.want == 0 || (okM t.want && decide (t.mode < t.want))) && ((zO? t.obj || (oid t.obj == t.id && t.mode != 0)) && ((!t.pin || t.mode != 0) && ((!t.due || t.pin) && (t.mode != 0 || t.want != 0))))))
end
section
attribute [local simp] instA
attribute [-simp] mkv
attribute [local simp] mkv_hd hdA_cons hdA_ob hdA_ob'
end
section
attribute [local simp] instA
noncomputable def good (l : List Tok) (j : Nat) : Bool := match l[j]? with
 | none=>true
 | some t=>fineR t && match j with
   | 0=>true
   | i + 1=>match l[i]? with
     | some s=>decide (s.id < t.id)
     | none=>true
noncomputable def valid (nd : Int) (l : List Tok) : Bool := (List.range l.length).all (good l) && okN nd
end
section
attribute [local simp] instA
attribute [-simp] mkv
attribute [local simp] mkv_hd hdA_cons hdA_ob hdA_ob'
end
section
attribute [local simp] instA binOpA
attribute [-simp] mkv
attribute [local simp] mkv_hd hdA_cons hdA_ob hdA_ob'
end
section
attribute [local simp] instA
attribute [-simp] mkv
attribute [local simp] mkv_hd hdA_cons hdA_ob hdA_ob'
structure Msg where
 fr : Int
 to : Int
 kind : Int
 id : Int
 mode : Int
 obj : Ob
 a : Int
 b : Int
 c : Int
 e : Int
@[simp] def Msg.v (m : Msg) : List AV := .int .i64 m.fr :: .int .i64 m.to :: .int .i64 m.kind :: .int .u64 m.id :: .int .i64 m.mode :: (m.obj.cells ++ [.int .u64 m.a, .int .i64 m.b, .int .u64 m.c, .int .i64 m.e])
theorem msgLeafs : leafs Try.prog 50 = 3 :: 3 :: 3 :: 30 :: 3 :: (leafs Try.prog 48 ++ [30,2,30,3]) := by rw [lf50,lf48]; rfl
theorem msg_nrm (m : Msg) : nrmL Try.prog (leafs Try.prog 50) m.v = m.v := by
 rw [msgLeafs]
 simp only [Msg.v,nrmL]
 rw [nrmL_append _ _ _ _ m.obj.len'.symm,m.obj.nrmL]
 simp [nrmL,nrmV]
theorem msg_nrm0 (f t k i m : Int) : nrmL Try.prog (leafs Try.prog 50) (.int .i64 f :: .int .i64 t :: .int .i64 k :: .int .u64 i :: .int .i64 m :: (zO ++ [.int .u64 0, .int .i64 0, .int .u64 0, .int .i64 0])) = (⟨f,t,k,i,m,zOb,0,0,0,0⟩ : Msg).v := by
 rw [msgLeafs]
 simp only [Msg.v,nrmL]
 rw [nrmL_append _ _ _ _ (by rw [obLeafs]; rfl),zN_eq]
 simp [nrmL,nrmV,zOb]
end
section
attribute [local simp] slice3A slice3C instA
attribute [local simp] instA
attribute [-simp] mkv
attribute [local simp] mkv_hd hdA_cons hdA_ob hdA_ob'
end
section
attribute [local simp] instA
attribute [-simp] mkv
attribute [local simp] mkv_hd hdA_cons hdA_ob hdA_ob'
end
section
attribute [local simp] instA
attribute [-simp] mkv
attribute [local simp] mkv_hd hdA_cons hdA_ob hdA_ob'
noncomputable def ls_specs : NL Spec := [(29,⟨1,sobS⟩)]
attribute [local simp] ls_specs
end
section
def byte (b : UInt8) : List AV := [.int .u8 b.toNat]
theorem byte_inj (a b : UInt8) (h : byte a = byte b) : a = b := by
 simp only [byte,List.cons.injEq,AV.int.injEq,true_and,and_true] at h
 exact UInt8.toNat_inj.1 (by omega)
def diceB (l : List UInt8) : ABlk := { gen := 0,kind := 2,elem := 86,size := 1,rows := [[.list 1 (l.map byte)]] }
theorem diceB_inj {a b : List UInt8} (h : diceB a = diceB b) : a = b := by
 simp only [diceB,ABlk.mk.injEq,List.cons.injEq,AV.list.injEq,true_and,and_true] at h
 exact map_inj byte_inj h
def dn (l : List UInt8) (n : Int) : Int := match l with
 | []=>0
 | b :: _=>if n ≤ 1 then 0 else (b.toNat : Int).tmod n
def dl (l : List UInt8) (n : Int) : List UInt8 := match l with
 | []=>[]
 | b :: r=>if n ≤ 1 then b :: r else r
theorem dn_nonneg (l : List UInt8) (n : Int) : 0 ≤ dn l n := by
 unfold dn
 split
 · omega
 · split
   · omega
   · exact Int.tmod_nonneg _ (by omega)
theorem dn_lt (l : List UInt8) {n : Int} (h : 0 < n) : dn l n < n := by
 unfold dn
 split
 · exact h
 · split
   · omega
   · exact Int.tmod_lt_of_pos _ h
def encD (x : List UInt8 × Int) : List AV × List ABlk := ([.ptr 0 0 0 0, .int .i64 x.2],[diceB x.1])
noncomputable def diceS : SpecFn := mkS2 encD fun x => (.int .i64 (dn x.1 x.2),[diceB (dl x.1 x.2)])
theorem diceS_eq (l : List UInt8) (n : Int) : diceS [.ptr 0 0 0 0, .int .i64 n] [diceB l] = some (.int .i64 (dn l n),[diceB (dl l n)]) :=
 mkS2_eq (enc:=encD) (fun x y h=>by
   simp only [encD,Prod.mk.injEq,List.cons.injEq,AV.int.injEq,true_and,and_true] at h
   rw [Prod.ext (diceB_inj h.2) h.1]) (l,n)
attribute [local simp] convertA sliceArrA sliceA bndA nilCheckA
theorem dice_ok : FnC Try.prog 17 diceS := by
 refine FnC.walkB 17 (fn:=Try.f17) Try.func17 rfl (by kernel_rfl) (fun x b hb=>by simp [encD] at hb; rw [hb]; rfl) fun x=>?_
 obtain ⟨l,n⟩:=x
 change W _ (RetB _ _ 1 _ _) _ _ ⟨34,[(0, .ptr 0 0 0 0),(1, .int .i64 n)],[(0,diceB l)]⟩
 cases l with
 | nil =>
   repeat (first | refine ZS ?_ | refine ZK tm no_specs rfl (by conv=>lhs; simp [diceB]) fun _=>?_ | refine ZL tm no_specs rfl (by conv=>lhs; simp [diceB]) fun _=>?_)
   simp only [dn,dl,diceB,List.map_nil]
   first | exact retE2_ok false (by conv => lhs; simp [retE2, frqT, frqV, frqVs, frqL, frq1, reachE, blkRefs, outE, nodupE, firstE, seqO, expB2, expF, refsB, refsL, AV.refs, AV.ren, renL, renB, List.range, List.range.loop, resVs, resV, pack]) | fail "no return here"
 | cons b r =>
   have hne : (((r.length : Nat) : Int) + 1 == 0) = false:=by simp; omega
   by_cases h : n ≤ 1
   · repeat (first | refine ZS ?_ | refine ZK tm no_specs rfl (by conv=>lhs; simp [diceB,h,hne]) fun _=>?_ | refine ZL tm no_specs rfl (by conv=>lhs; simp [diceB,h,hne]) fun _=>?_)
     simp only [dn,dl,diceB,if_pos h,List.map_cons]
     first | exact retE2_ok false (by conv => lhs; simp [retE2, frqT, frqV, frqVs, frqL, frq1, reachE, blkRefs, outE, nodupE, firstE, seqO, expB2, expF, refsB, refsL, AV.refs, AV.ren, renL, renB, List.range, List.range.loop, resVs, resV, pack]) | fail "no return here"
   · have wb : IntKind.i64.wrap (b.toNat : Int) = b.toNat:=w64 (by omega) (by have:=b.toNat_lt; omega)
     have h0 : ¬ n = 0:=by omega
     have ht : List.take r.length (r.map byte) = r.map byte:=List.take_of_length_le (by simp)
     repeat (first | refine ZS ?_ | refine ZK tm no_specs rfl (by conv=>lhs; simp [diceB,h,hne,byte,wb,h0,ht]) fun _=>?_ | refine ZL tm no_specs rfl (by conv=>lhs; simp [diceB,h,hne,byte,wb,h0,ht]) fun _=>?_)
     simp only [dn,dl,diceB,if_neg h,List.map_cons]
     first | exact retE2_ok false (by conv => lhs; simp [retE2, frqT, frqV, frqVs, frqL, frq1, reachE, blkRefs, outE, nodupE, firstE, seqO, expB2, expF, refsB, refsL, AV.refs, AV.ren, renL, renB, List.range, List.range.loop, resVs, resV, pack]) | fail "no return here"
attribute [local simp] sliceArrA sliceA bndA mmA placesA
def encNw (l : List UInt8) : List AV × List ABlk := ([.list 1 (l.map byte)],[])
theorem encNw_inj : ∀ x y : List UInt8,encNw x = encNw y → x = y := fun x y h => by
 simp only [encNw,Prod.mk.injEq,List.cons.injEq,AV.list.injEq,true_and,and_true] at h
 exact map_inj byte_inj h
noncomputable def newS : SpecFn := mkS2 encNw fun l => (.ptr 0 0 0 0,[diceB (l.take 400)])
theorem newS_eq (l : List UInt8) : newS [.list 1 (l.map byte)] [] = some (.ptr 0 0 0 0,[diceB (l.take 400)]) := mkS2_eq (enc := encNw) (fun x y h => by rw [encNw_inj x y h]) l
theorem new_ok : FnC Try.prog 16 newS := by
 refine FnC.walkB 16 (fn:=Try.f16) Try.func16 rfl (by kernel_rfl) (fun x b hb=>by simp [encNw] at hb) fun l=>?_
 change W _ (RetB _ _ 0 _ _) _ _ ⟨10,[(0, .list 1 (l.map byte))],[]⟩
 by_cases h : (400 : Int) < l.length
 · have h2 : 400 ≤ l.length:=by omega
   repeat (first | refine ZS ?_ | refine ZK tm no_specs rfl (by conv=>lhs; simp [h,h2]) fun _=>?_ | refine ZL tm no_specs rfl (by conv=>lhs; simp [h,h2]) fun _=>?_)
   simp only [diceB,List.map_take]
   first | exact retE2_ok false (by conv => lhs; simp [retE2, frqT, frqV, frqVs, frqL, frq1, reachE, blkRefs, outE, nodupE, firstE, seqO, expB2, expF, refsB, refsL, AV.refs, AV.ren, renL, renB, List.range, List.range.loop, resVs, resV, pack]) | fail "no return here"
 · have h2 : l.length ≤ 400:=by omega
   have h3 : List.take l.length (l.map byte) = l.map byte:=List.take_of_length_le (by simp)
   repeat (first | refine ZS ?_ | refine ZK tm no_specs rfl (by conv=>lhs; simp [h,h3]) fun _=>?_ | refine ZL tm no_specs rfl (by conv=>lhs; simp [h,h3]) fun _=>?_)
   simp only [diceB,List.take_of_length_le h2]
   first | exact retE2_ok false (by conv => lhs; simp [retE2, frqT, frqV, frqVs, frqL, frq1, reachE, blkRefs, outE, nodupE, firstE, seqO, expB2, expF, refsB, refsL, AV.refs, AV.ren, renL, renB, List.range, List.range.loop, resVs, resV, pack]) | fail "no return here"
end
section
attribute [local simp] instA binOpA
def mk3 (a b c : Int) : Int := IntKind.u64.wrap ↑((IntKind.u64.wrap ↑((IntKind.u64.wrap (IntKind.u64.wrap a * 2 ^ min 56 IntKind.u64.bits) % 2 ^ IntKind.u64.bits).toNat ||| (IntKind.u64.wrap (IntKind.u64.wrap b * 2 ^ min 40 IntKind.u64.bits) % 2 ^ IntKind.u64.bits).toNat) % 2 ^ IntKind.u64.bits).toNat ||| (IntKind.u64.wrap c % 2 ^ IntKind.u64.bits).toNat)
structure Idp where
 a : Int
 b : Int
 c : Int
 h1 : 0 ≤ a
 h2 : a ≤ 127
 h3 : 0 ≤ b
 h4 : b ≤ 65535
 h5 : 1 ≤ c
 h6 : c ≤ 1099511627775
noncomputable def mk3S : SpecFn := mkS (fun d : Idp => [.int .i64 d.a, .int .i64 d.b, .int .i64 d.c]) fun d => (.tup [.int .u64 (mk3 d.a d.b d.c), .int .i64 0],[])
theorem mk3S_eq (d : Idp) : mk3S [.int .i64 d.a, .int .i64 d.b, .int .i64 d.c] [] = some (.tup [.int .u64 (mk3 d.a d.b d.c), .int .i64 0],[]) :=
 mkS_eq (enc:=fun d : Idp=>[AV.int .i64 d.a, .int .i64 d.b, .int .i64 d.c]) (fun x y h=>by
   simp only [List.cons.injEq,AV.int.injEq,true_and,and_true] at h
   obtain ⟨h1,h2,h3⟩:=h
   rw [h1,h2,h3]) d
theorem mk3_ok : FnC Try.prog 40 mk3S := by
 refine FnC.walk 40 (fn:=Try.f40) Try.func40 rfl (by kernel_rfl) fun d=>?_
 obtain ⟨a,b,c,h1,h2,h3,h4,h5,h6⟩:=d
 have n1 : ¬ a < 0:=by omega
 have n2 : ¬ 127 < a:=by omega
 have n3 : ¬ b < 0:=by omega
 have n4 : ¬ 65535 < b:=by omega
 have n5 : ¬ c < 1:=by omega
 have n6 : ¬ 1099511627775 < c:=by omega
 change W _ (Ret _ _ (.tup [.int .u64 (mk3 a b c), .int .i64 0]) []) _ _ ⟨40,[(0, .int .i64 a),(1, .int .i64 b),(2, .int .i64 c)],[]⟩
 repeat (first | refine ZS ?_ | refine ZK tm no_specs rfl (by conv=>lhs; simp [n1,n2,n3,n4,n5,n6]) fun _=>?_ | refine ZL tm no_specs rfl (by conv=>lhs; simp [n1,n2,n3,n4,n5,n6]) fun _=>?_)
 simp only [mk3]
 exact Yr
def d1 (l : List UInt8) : List UInt8 := dl l 3
def d2 (l : List UInt8) : List UInt8 := dl (d1 l) 2
def d3 (l : List UInt8) : List UInt8 := dl (d2 l) 9
def idV (l : List UInt8) : Int := mk3 (dn l 3) (dn (d1 l) 2) (1 + dn (d2 l) 9)
def encD1 (l : List UInt8) : List AV × List ABlk := ([.ptr 0 0 0 0],[diceB l])
noncomputable def idS : SpecFn := mkS2 encD1 fun l => (.int .u64 (idV l),[diceB (d3 l)])
theorem idS_eq (l : List UInt8) : idS [.ptr 0 0 0 0] [diceB l] = some (.int .u64 (idV l),[diceB (d3 l)]) :=
 mkS2_eq (enc:=encD1) (fun x y h=>by
   simp only [encD1,Prod.mk.injEq,List.cons.injEq,true_and,and_true] at h
   rw [diceB_inj h]) l
noncomputable def id_specs : NL Spec := [(17,⟨3,diceS⟩),(40,⟨1,mk3S⟩)]
theorem id_specs_ok : ∀ p ∈ id_specs,FnC Try.prog p.1 p.2.fn := by
 simp only [id_specs,List.mem_cons,List.not_mem_nil,or_false]
 rintro p (rfl | rfl)
 · exact dice_ok
 · exact mk3_ok
attribute [local simp] id_specs
theorem id_ok : FnC Try.prog 20 idS := by
 refine FnC.walkB 20 (fn:=Try.f20) Try.func20 rfl (by kernel_rfl) (fun x b hb=>by simp [encD1] at hb; rw [hb]; rfl) fun l=>?_
 change W _ (RetB _ _ 1 (.int .u64 (mk3 (dn l 3) (dn (d1 l) 2) (1 + dn (d2 l) 9))) [diceB (d3 l)]) _ _ ⟨17,[(0, .ptr 0 0 0 0)],[(0,diceB l)]⟩
 have c1:=diceS_eq l 3
 have c2:=diceS_eq (d1 l) 2
 have c3:=diceS_eq (d2 l) 9
 have u1:=dn_nonneg l 3
 have u2:=dn_nonneg (d1 l) 2
 have u3:=dn_nonneg (d2 l) 9
 have v1:=dn_lt l (n:=3) (by omega)
 have v2:=dn_lt (d1 l) (n:=2) (by omega)
 have v3:=dn_lt (d2 l) (n:=9) (by omega)
 change diceS _ _ = some (_,[diceB (d1 l)]) at c1
 change diceS _ _ = some (_,[diceB (d2 l)]) at c2
 change diceS _ _ = some (_,[diceB (d3 l)]) at c3
 generalize dn l 3 = a at *
 generalize dn (d1 l) 2 = b at *
 generalize dn (d2 l) 9 = c at *
 generalize d3 l = e3 at *
 generalize d2 l = e2 at *
 generalize d1 l = e1 at *
 have cm:=mk3S_eq ⟨a,b,1 + c,u1,by omega,u2,by omega,by omega,by omega⟩
 have hw : IntKind.i64.wrap (1 + c) = 1 + c:=w64 (by omega) (by omega)
 simp only [diceB] at c1 c2 c3
 dsimp only at cm
 repeat (first | refine ZS ?_ | refine ZK tm id_specs_ok rfl (by conv=>lhs; simp [diceB,c1,c2,c3,cm,hw]) fun _=>?_ | refine ZL tm id_specs_ok rfl (by conv=>lhs; simp [diceB,c1,c2,c3,cm,hw]) fun _=>?_)
 simp only [diceB]
 first | exact retE2_ok false (by conv => lhs; simp [retE2, frqT, frqV, frqVs, frqL, frq1, reachE, blkRefs, outE, nodupE, firstE, seqO, expB2, expF, refsB, refsL, AV.refs, AV.ren, renL, renB, List.range, List.range.loop, resVs, resV, pack]) | fail "no return here"
end
section
theorem TyFs.app {q : TypeId → List AV → Prop} : ∀ {l1 l2 : List TypeId} {xs : List AV},TyFs q (l1 ++ l2) xs → ∃ a b,xs = a ++ b ∧ TyFs q l1 a ∧ TyFs q l2 b
 | [],l2,xs,h=>⟨[],xs,rfl,rfl,h⟩
 | t :: r,l2,xs,h=>by
   obtain ⟨a,b,rfl,h1,h2⟩:=h
   obtain ⟨c,d,rfl,h3,h4⟩:=TyFs.app (l1:=r) h2
   exact ⟨a ++ c,d,by rw [List.append_assoc],⟨a,c,rfl,h1,h3⟩,h4⟩
theorem TyFs.flat {q q' : TypeId → List AV → Prop} {f : TypeId → List TypeId} (h : ∀ t xs,TyFs q (f t) xs → q' t xs) : ∀ (ts : List TypeId) (xs : List AV),TyFs q (ts.flatMap f) xs → TyFs q' ts xs
 | [],xs,hx=>hx
 | t :: r,xs,hx=>by
   rw [List.flatMap_cons] at hx
   obtain ⟨a,b,rfl,h1,h2⟩:=TyFs.app hx
   exact ⟨a,b,rfl,h _ _ h1,TyFs.flat h r b h2⟩
theorem TyFs.single {q : TypeId → List AV → Prop} {t : TypeId} {xs : List AV} (h : TyFs q [t] xs) : q t xs := by
 obtain ⟨a,b,rfl,h1,h2⟩:=h
 have h2 : b = []:=h2
 subst h2
 rwa [List.append_nil]
theorem TyR.ofLeafs {P : Program} {m : Nat} : ∀ (n : Nat) (t : TypeId) (xs : List AV),TyFs (TyR P m) (leafsN P n t) xs → TyR P (n + m) t xs
 | 0,t,xs,h=>by
   rw [Nat.zero_add]
   exact TyFs.single h
 | n + 1,t,xs,h=>by
   rw [show n + 1 + m = (n + m) + 1 by omega]
   rw [leafsN] at h
   split at h
   · rename_i fs hu
     rw [TyR_struct hu]
     exact TyFs.flat (fun t xs h=>TyR.ofLeafs n t xs h) _ _ h
   · rename_i k e hu
     rw [TyR_array hu]
     exact TyFs.flat (fun t xs h=>TyR.ofLeafs n t xs h) _ _ h
   · exact TyR.monoN (by omega) (TyFs.single h)
theorem TyFs.one {q : TypeId → List AV → Prop} {t : TypeId} {r : List TypeId} {x : AV} {b : List AV} (h1 : q t [x]) (h2 : TyFs q r b) : TyFs q (t :: r) (x :: b) := ⟨[x],b,rfl,h1,h2⟩
theorem tyInt {P : Program} {n : Nat} {t : TypeId} {k : IntKind} {m : Int} (h : P.underlying t = some (.int k)) (w : (Lit.int k m).wf = true) : TyR P (n + 1) t [.int k m] := by
 rw [TyR_int h]
 exact ⟨m,rfl,w⟩
theorem tySl {P : Program} {n : Nat} {t : TypeId} {sz : Nat} {rows : List (List AV)} (e : TypeId) (h : P.underlying t = some (.slice e)) (hc : P.cellsOf e = sz) (hl : rows.length ≤ 10000) (hr : RowsTy P n e rows) : TyR P (n + 1) t [.list sz rows] := by
 rw [TyR_slice h,hc]
 exact ⟨rows,rfl,by simp only [maxLen]; omega,hr⟩
structure Ox where
 id : Int
 k : Int
 n : Int
 w : List (List AV)
 b : List (List AV)
 p6 : Int
 i7 : Int
 p8 : Int
 p9 : Int
 tl : List (List AV)
 b0 : List (List AV)
 b1 : List (List AV)
 c0 : Int
 c1 : Int
 s : Int
 nm : List (List AV)
def Ox.cells (o : Ox) : List AV := [.int .u64 o.id, .int .i64 o.k, .int .i64 o.n, .int .i64 0, .int .u64 0, .list 1 [], .list 4 [], .list 1 [], .int .i64 0, .int .i64 0, .int .i64 0, .int .i64 0, .int .i64 0, .int .i64 0, .int .i64 0, .int .i64 0, .int .i64 0, .int .i64 0, .list 2 [], .list 4 [], .int .i64 0, .int .i64 0, .int .i64 0, .list 1 o.w, .list 1 o.b, .int .i64 o.p6, .int .u64 o.i7, .int .i64 o.p8, .int .i64 o.p9, .list 1 o.tl, .list 1 o.b0, .list 1 o.b1, .int .i64 o.c0, .int .i64 o.c1, .int .i64 o.s, .list 3 o.nm]
def RwOK (t : TypeId) (l : List (List AV)) : Prop := l.length ≤ 100 ∧ RowsTy Try.prog 3 t l ∧ bdRows 10000 l = true
structure Ox.OK (o : Ox) : Prop where
 id : (Lit.int .u64 o.id).wf = true
 k : (Lit.int .i64 o.k).wf = true
 n : (Lit.int .i64 o.n).wf = true
 w : RwOK 2 o.w
 b : RwOK 5 o.b
 p6 : (Lit.int .i64 o.p6).wf = true
 i7 : (Lit.int .u64 o.i7).wf = true
 p8 : (Lit.int .i64 o.p8).wf = true
 p9 : (Lit.int .i64 o.p9).wf = true
 tl : RwOK 30 o.tl
 b0 : RwOK 5 o.b0
 b1 : RwOK 5 o.b1
 c0 : (Lit.int .i64 o.c0).wf = true
 c1 : (Lit.int .i64 o.c1).wf = true
 s : (Lit.int .i64 o.s).wf = true
 nm : RwOK 106 o.nm
theorem rwOK_nil (t : TypeId) : RwOK t [] := ⟨by simp,by simp [RowsTy],rfl⟩
theorem obLeafs4 : leafsN Try.prog 4 48 = leafs Try.prog 48 := by kernel_rfl
theorem Ox.OK.ty {o : Ox} (h : o.OK) : TyR Try.prog 8 48 o.cells := by
 have w0 : (Lit.int .i64 0).wf = true:=by decide
 have w1 : (Lit.int .u64 0).wf = true:=by decide
 apply TyR.ofLeafs (m:=4) 4
 rw [obLeafs4,lf48]
 unfold Ox.cells
 refine TyFs.one (tyInt (by kernel_rfl) h.id) ?_
 refine TyFs.one (tyInt (by kernel_rfl) h.k) ?_
 refine TyFs.one (tyInt (by kernel_rfl) h.n) ?_
 refine TyFs.one (tyInt (by kernel_rfl) w0) ?_
 refine TyFs.one (tyInt (by kernel_rfl) w1) ?_
 refine TyFs.one (tySl 30 (by kernel_rfl) (by kernel_rfl) (by simp) (by simp [RowsTy])) ?_
 refine TyFs.one (tySl 144 (by kernel_rfl) (by kernel_rfl) (by simp) (by simp [RowsTy])) ?_
 refine TyFs.one (tySl 9 (by kernel_rfl) (by kernel_rfl) (by simp) (by simp [RowsTy])) ?_
 iterate 10 (refine TyFs.one (tyInt (by kernel_rfl) w0) ?_)
 refine TyFs.one (tySl 128 (by kernel_rfl) (by kernel_rfl) (by simp) (by simp [RowsTy])) ?_
 refine TyFs.one (tySl 131 (by kernel_rfl) (by kernel_rfl) (by simp) (by simp [RowsTy])) ?_
 iterate 3 (refine TyFs.one (tyInt (by kernel_rfl) w0) ?_)
 refine TyFs.one (tySl 2 (by kernel_rfl) (by kernel_rfl) (by have:=h.w.1; omega) h.w.2.1) ?_
 refine TyFs.one (tySl 5 (by kernel_rfl) (by kernel_rfl) (by have:=h.b.1; omega) h.b.2.1) ?_
 refine TyFs.one (tyInt (by kernel_rfl) h.p6) ?_
 refine TyFs.one (tyInt (by kernel_rfl) h.i7) ?_
 refine TyFs.one (tyInt (by kernel_rfl) h.p8) ?_
 refine TyFs.one (tyInt (by kernel_rfl) h.p9) ?_
 refine TyFs.one (tySl 30 (by kernel_rfl) (by kernel_rfl) (by have:=h.tl.1; omega) h.tl.2.1) ?_
 refine TyFs.one (tySl 5 (by kernel_rfl) (by kernel_rfl) (by have:=h.b0.1; omega) h.b0.2.1) ?_
 refine TyFs.one (tySl 5 (by kernel_rfl) (by kernel_rfl) (by have:=h.b1.1; omega) h.b1.2.1) ?_
 refine TyFs.one (tyInt (by kernel_rfl) h.c0) ?_
 refine TyFs.one (tyInt (by kernel_rfl) h.c1) ?_
 refine TyFs.one (tyInt (by kernel_rfl) h.s) ?_
 refine TyFs.one (tySl 106 (by kernel_rfl) (by kernel_rfl) (by have:=h.nm.1; omega) h.nm.2.1) ?_
 rfl
theorem Ox.OK.bd {o : Ox} (h : o.OK) : bdL 10000 o.cells = true := by
 have e : ∀ {t : TypeId} {n : Nat} {l : List (List AV)},RwOK t l → bdV 10000 (.list n l) = true:=fun ⟨h1,_,h2⟩=>by
   simp only [bdV,h2,Bool.and_true,decide_eq_true_eq]
   omega
 simp only [Ox.cells,bdL,e h.w,e h.b,e h.tl,e h.b0,e h.b1,e h.nm]
 simp [bdV,bdRows]
def Ox.ob (o : Ox) (h : o.OK) : Ob := ⟨o.cells,h.ty,h.bd⟩
end
section
attribute [local simp] instA slice3A slice3C
attribute [-simp] mkv
attribute [local simp] mkv_hd hdA_cons hdA_ob hdA_ob'
def oxz (id k n : Int) : Ox := ⟨id,k,n,[],[],0,0,0,0,[],[],[],0,0,0,[]⟩
theorem oxz_nrm (id k n p6 i7 p8 p9 c0 c1 s : Int) : nrmR Try.prog [48] (.agg [.int .u64 id, .int .i64 k, .int .i64 n, .int .i64 0, .int .u64 0, .nils, .nils, .nils, .int .i64 0, .int .i64 0, .int .i64 0, .int .i64 0, .int .i64 0, .int .i64 0, .int .i64 0, .int .i64 0, .int .i64 0, .int .i64 0, .nils, .nils, .int .i64 0, .int .i64 0, .int .i64 0, .nils, .nils, .int .i64 p6, .int .u64 i7, .int .i64 p8, .int .i64 p9, .nils, .nils, .nils, .int .i64 c0, .int .i64 c1, .int .i64 s, .nils]) = .agg (Ox.cells ⟨id,k,n,[],[],p6,i7,p8,p9,[],[],[],c0,c1,s,[]⟩) := by kernel_rfl
theorem oxz_id (id k n p6 i7 p8 p9 c0 c1 s : Int) : nrmR Try.prog [48] (.agg (Ox.cells ⟨id,k,n,[],[],p6,i7,p8,p9,[],[],[],c0,c1,s,[]⟩)) = .agg (Ox.cells ⟨id,k,n,[],[],p6,i7,p8,p9,[],[],[],c0,c1,s,[]⟩) := by kernel_rfl
noncomputable def ocS (f : Int → Ox) : SpecFn := mkS (fun id : Int => [.int .u64 id]) fun id => (.agg (f id).cells,[])
theorem ocS_eq (f : Int → Ox) (id : Int) : ocS f [.int .u64 id] [] = some (.agg (f id).cells,[]) :=
 mkS_eq (enc:=fun id : Int=>[AV.int .u64 id]) (fun x y h=>by
   simp only [List.cons.injEq,AV.int.injEq,true_and,and_true] at h
   rw [h]) id
def o08 (id : Int) : Ox := ⟨id,3,0,[],[],0,0,0,0,[],[],[],0,0,0,[]⟩
theorem n08_ok : FnC Try.prog 71 (ocS o08) := by
 refine FnC.walkN 71 (fn:=Try.f71) [48] Try.func71 rfl (by kernel_rfl) (fun id=>?_) (fun id=>⟨_,oxz_id id 3 0 0 0 0 0 0 0 0⟩)
 change W _ (RetNf _ _ _ (.agg (o08 id).cells) []) _ _ ⟨5,[(0, .int .u64 id)],[]⟩
 repeat' (first | intro (hb : _ = _) | refine ZV ?_ | refine ZB tm no_specs ?_ | refine ZH ?_ ?_ | refine ZJ (by conv=>lhs; simp) ?_ | refine ZA ?_ ?_)
 refine Ye ?_
 exact oxz_nrm id 3 0 0 0 0 0 0 0 0
def o11 (id : Int) : Ox := ⟨id,5,0,[],[],0,0,1,1,[],[],[],0,0,0,[]⟩
theorem n11_ok : FnC Try.prog 73 (ocS o11) := by
 refine FnC.walkN 73 (fn:=Try.f73) [48] Try.func73 rfl (by kernel_rfl) (fun id=>?_) (fun id=>⟨_,oxz_id id 5 0 0 0 1 1 0 0 0⟩)
 change W _ (RetNf _ _ _ (.agg (o11 id).cells) []) _ _ ⟨5,[(0, .int .u64 id)],[]⟩
 repeat' (first | intro (hb : _ = _) | refine ZV ?_ | refine ZB tm no_specs ?_ | refine ZH ?_ ?_ | refine ZJ (by conv=>lhs; simp) ?_ | refine ZA ?_ ?_)
 refine Ye ?_
 exact oxz_nrm id 5 0 0 0 1 1 0 0 0
def o12 (id : Int) : Ox := ⟨id,7,0,[],[],0,0,0,0,[],[],[],1,1,0,[]⟩
theorem n12_ok : FnC Try.prog 76 (ocS o12) := by
 refine FnC.walkN 76 (fn:=Try.f76) [48] Try.func76 rfl (by kernel_rfl) (fun id=>?_) (fun id=>⟨_,oxz_id id 7 0 0 0 0 0 1 1 0⟩)
 change W _ (RetNf _ _ _ (.agg (o12 id).cells) []) _ _ ⟨6,[(0, .int .u64 id)],[]⟩
 repeat' (first | intro (hb : _ = _) | refine ZV ?_ | refine ZB tm no_specs ?_ | refine ZH ?_ ?_ | refine ZJ (by conv=>lhs; simp) ?_ | refine ZA ?_ ?_)
 refine Ye ?_
 exact oxz_nrm id 7 0 0 0 0 0 1 1 0
def o17 (id : Int) : Ox := ⟨id,9,0,[],[],0,0,0,0,[],[],[],0,0,0,[]⟩
theorem n17_ok : FnC Try.prog 49 (ocS o17) := by
 refine FnC.walkN 49 (fn:=Try.f49) [48] Try.func49 rfl (by kernel_rfl) (fun id=>?_) (fun id=>⟨_,oxz_id id 9 0 0 0 0 0 0 0 0⟩)
 change W _ (RetNf _ _ _ (.agg (o17 id).cells) []) _ _ ⟨5,[(0, .int .u64 id)],[]⟩
 repeat' (first | intro (hb : _ = _) | refine ZV ?_ | refine ZB tm no_specs ?_ | refine ZH ?_ ?_ | refine ZJ (by conv=>lhs; simp) ?_ | refine ZA ?_ ?_)
 refine Ye ?_
 exact oxz_nrm id 9 0 0 0 0 0 0 0 0
noncomputable def n09S : SpecFn := mkS (fun _ : Unit => []) fun _ => (.agg (oxz 1 10 0).cells,[])
theorem n09S_eq : n09S [] [] = some (.agg (oxz 1 10 0).cells,[]) := mkS_eq (enc := fun _ : Unit => ([] : List AV)) (fun _ _ _ => rfl) ()
theorem n09_ok : FnC Try.prog 78 n09S := by
 refine FnC.walkN 78 (fn:=Try.f78) [48] Try.func78 rfl (by kernel_rfl) (fun id=>?_) (fun id=>⟨_,oxz_id 1 10 0 0 0 0 0 0 0 0⟩)
 change W _ (RetNf _ _ _ (.agg (oxz 1 10 0).cells) []) _ _ ⟨2,[],[]⟩
 repeat' (first | intro (hb : _ = _) | refine ZV ?_ | refine ZB tm no_specs ?_ | refine ZH ?_ ?_ | refine ZJ (by conv=>lhs; simp) ?_ | refine ZA ?_ ?_)
 refine Ye ?_
 exact oxz_nrm 1 10 0 0 0 0 0 0 0 0
def o08o (id i : Int) : Ox := ⟨id,4,1,[],[],0,i,0,0,[],[],[],0,0,0,[]⟩
noncomputable def opnS : SpecFn := mkS (fun d : Int × Int => [.int .u64 d.1, .int .u64 d.2]) fun d => (.agg (o08o d.1 d.2).cells,[])
theorem opnS_eq (id i : Int) : opnS [.int .u64 id, .int .u64 i] [] = some (.agg (o08o id i).cells,[]) :=
 mkS_eq (enc:=fun d : Int × Int=>[AV.int .u64 d.1, .int .u64 d.2]) (res:=fun d=>(.agg (o08o d.1 d.2).cells,[])) (fun x y h=>by
   simp only [List.cons.injEq,AV.int.injEq,true_and,and_true] at h
   rw [h.1,h.2]) (id,i)
theorem opn_ok : FnC Try.prog 43 opnS := by
 refine FnC.walkN 43 (fn:=Try.f43) [48] Try.func43 rfl (by kernel_rfl) (fun d=>?_) (fun d=>⟨_,oxz_id d.1 4 1 0 d.2 0 0 0 0 0⟩)
 obtain ⟨id,i⟩:=d
 change W _ (RetNf _ _ _ (.agg (o08o id i).cells) []) _ _ ⟨8,[(0, .int .u64 id),(1, .int .u64 i)],[]⟩
 repeat' (first | intro (hb : _ = _) | refine ZV ?_ | refine ZB tm no_specs ?_ | refine ZH ?_ ?_ | refine ZJ (by conv=>lhs; simp) ?_ | refine ZA ?_ ?_)
 refine Ye ?_
 exact oxz_nrm id 4 1 0 i 0 0 0 0 0
attribute [local simp] instA slice3A slice3C makeSliceA
theorem nf8 : (Try.prog.info? 2).map (fun i => (i.size,i.bytes)) = some (1,8) := by kernel_rfl
theorem nf8_ex : ∃ i,Try.prog.info? 2 = some i ∧ i.size = 1 ∧ i.bytes = 8 := by
 have h:=nf8
 cases hi : Try.prog.info? 2 with
 | none=>rw [hi] at h; cases h
 | some i =>
   rw [hi] at h
   simp only [Option.map_some,Option.some.injEq,Prod.mk.injEq] at h
   exact ⟨i,rfl,h.1,h.2⟩
end
section
attribute [local simp] instA slice3A slice3C
attribute [-simp] mkv
attribute [local simp] mkv_hd hdA_cons hdA_ob hdA_ob'
theorem encX1_inj : ∀ x y : List UInt8,encD1 x = encD1 y → x = y := fun x y h => by
 simp only [encD1,Prod.mk.injEq,List.cons.injEq,true_and,and_true] at h
 exact diceB_inj h
def WdP (_ : List UInt8) (r : AV × List ABlk) : Prop := ∃ (v : Int) (ds' : List UInt8),(Lit.int .i64 v).wf = true ∧ r = (.int .i64 v,[diceB ds'])
noncomputable def dc_specs : NL Spec := [(17,⟨3,diceS⟩)]
theorem dc_specs_ok : ∀ p ∈ dc_specs,FnC Try.prog p.1 p.2.fn := by
 simp only [dc_specs,List.mem_cons,List.not_mem_nil,or_false]
 rintro p rfl
 exact dice_ok
attribute [local simp] dc_specs
theorem m12 : 12 ≤ maxLen := by simp [maxLen]
theorem wd_ex : ∃ S,FnC Try.prog 50 S ∧ ∀ ds, ∃ r,S (encD1 ds).1 (encD1 ds).2 = some r ∧ WdP ds r := by
 refine FnC.existsB 50 (fn:=Try.f50) Try.func50 rfl (by kernel_rfl) (fun x b hb=>by simp [encD1] at hb; rw [hb]; rfl) encX1_inj (fun ds=>⟨_,0,ds,by decide,rfl⟩) fun ds=>?_
 change W _ _ _ _ ⟨8,[(0, .ptr 0 0 0 0)],[(0,diceB ds)]⟩
 have c1:=diceS_eq ds 12
 have b1:=dn_nonneg ds 12
 have b2:=dn_lt ds (n:=12) (by omega)
 generalize dl ds 12 = e at *
 generalize dn ds 12 = d at *
 simp only [diceB] at c1 ⊢
 have hd : d = 0 ∨ d = 1 ∨ d = 2 ∨ d = 3 ∨ d = 4 ∨ d = 5 ∨ d = 6 ∨ d = 7 ∨ d = 8 ∨ d = 9 ∨ d = 10 ∨ d = 11:=by omega
 rcases hd with rfl | rfl | rfl | rfl | rfl | rfl | rfl | rfl | rfl | rfl | rfl | rfl
 · repeat' (first | intro (hb : _ = _) | refine ZV ?_ | refine ZB tm dc_specs_ok ?_ | refine ZH ?_ ?_ | refine ZJ (by conv=>lhs; simp [c1,m12]) ?_ | refine ZA ?_ ?_)
   refine ⟨(.int .i64 0,[diceB e]),⟨0,e,by decide,rfl⟩, ?_⟩
   exact RetB.raw [0] rfl (by conv=>lhs; simp) (by decide) (by rintro j hj; have hj : j < 1:=hj; rcases (show j = 0 by omega) with rfl; exact ⟨rfl,by simp⟩) (by simp [diceB]) (by simp)
 · repeat' (first | intro (hb : _ = _) | refine ZV ?_ | refine ZB tm dc_specs_ok ?_ | refine ZH ?_ ?_ | refine ZJ (by conv=>lhs; simp [c1,m12]) ?_ | refine ZA ?_ ?_)
   refine ⟨(.int .i64 1,[diceB e]),⟨1,e,by decide,rfl⟩, ?_⟩
   exact RetB.raw [0] rfl (by conv=>lhs; simp) (by decide) (by rintro j hj; have hj : j < 1:=hj; rcases (show j = 0 by omega) with rfl; exact ⟨rfl,by simp⟩) (by simp [diceB]) (by simp)
 · repeat' (first | intro (hb : _ = _) | refine ZV ?_ | refine ZB tm dc_specs_ok ?_ | refine ZH ?_ ?_ | refine ZJ (by conv=>lhs; simp [c1,m12]) ?_ | refine ZA ?_ ?_)
   refine ⟨(.int .i64 2,[diceB e]),⟨2,e,by decide,rfl⟩, ?_⟩
   exact RetB.raw [0] rfl (by conv=>lhs; simp) (by decide) (by rintro j hj; have hj : j < 1:=hj; rcases (show j = 0 by omega) with rfl; exact ⟨rfl,by simp⟩) (by simp [diceB]) (by simp)
 · repeat' (first | intro (hb : _ = _) | refine ZV ?_ | refine ZB tm dc_specs_ok ?_ | refine ZH ?_ ?_ | refine ZJ (by conv=>lhs; simp [c1,m12]) ?_ | refine ZA ?_ ?_)
   refine ⟨(.int .i64 3,[diceB e]),⟨3,e,by decide,rfl⟩, ?_⟩
   exact RetB.raw [0] rfl (by conv=>lhs; simp) (by decide) (by rintro j hj; have hj : j < 1:=hj; rcases (show j = 0 by omega) with rfl; exact ⟨rfl,by simp⟩) (by simp [diceB]) (by simp)
 · repeat' (first | intro (hb : _ = _) | refine ZV ?_ | refine ZB tm dc_specs_ok ?_ | refine ZH ?_ ?_ | refine ZJ (by conv=>lhs; simp [c1,m12]) ?_ | refine ZA ?_ ?_)
   refine ⟨(.int .i64 1,[diceB e]),⟨1,e,by decide,rfl⟩, ?_⟩
   exact RetB.raw [0] rfl (by conv=>lhs; simp) (by decide) (by rintro j hj; have hj : j < 1:=hj; rcases (show j = 0 by omega) with rfl; exact ⟨rfl,by simp⟩) (by simp [diceB]) (by simp)
 · repeat' (first | intro (hb : _ = _) | refine ZV ?_ | refine ZB tm dc_specs_ok ?_ | refine ZH ?_ ?_ | refine ZJ (by conv=>lhs; simp [c1,m12]) ?_ | refine ZA ?_ ?_)
   refine ⟨(.int .i64 0,[diceB e]),⟨0,e,by decide,rfl⟩, ?_⟩
   exact RetB.raw [0] rfl (by conv=>lhs; simp) (by decide) (by rintro j hj; have hj : j < 1:=hj; rcases (show j = 0 by omega) with rfl; exact ⟨rfl,by simp⟩) (by simp [diceB]) (by simp)
 · repeat' (first | intro (hb : _ = _) | refine ZV ?_ | refine ZB tm dc_specs_ok ?_ | refine ZH ?_ ?_ | refine ZJ (by conv=>lhs; simp [c1,m12]) ?_ | refine ZA ?_ ?_)
   refine ⟨(.int .i64 5,[diceB e]),⟨5,e,by decide,rfl⟩, ?_⟩
   exact RetB.raw [0] rfl (by conv=>lhs; simp) (by decide) (by rintro j hj; have hj : j < 1:=hj; rcases (show j = 0 by omega) with rfl; exact ⟨rfl,by simp⟩) (by simp [diceB]) (by simp)
 · repeat' (first | intro (hb : _ = _) | refine ZV ?_ | refine ZB tm dc_specs_ok ?_ | refine ZH ?_ ?_ | refine ZJ (by conv=>lhs; simp [c1,m12]) ?_ | refine ZA ?_ ?_)
   refine ⟨(.int .i64 16,[diceB e]),⟨16,e,by decide,rfl⟩, ?_⟩
   exact RetB.raw [0] rfl (by conv=>lhs; simp) (by decide) (by rintro j hj; have hj : j < 1:=hj; rcases (show j = 0 by omega) with rfl; exact ⟨rfl,by simp⟩) (by simp [diceB]) (by simp)
 · repeat' (first | intro (hb : _ = _) | refine ZV ?_ | refine ZB tm dc_specs_ok ?_ | refine ZH ?_ ?_ | refine ZJ (by conv=>lhs; simp [c1,m12]) ?_ | refine ZA ?_ ?_)
   refine ⟨(.int .i64 (-1),[diceB e]),⟨(-1),e,by decide,rfl⟩, ?_⟩
   exact RetB.raw [0] rfl (by conv=>lhs; simp) (by decide) (by rintro j hj; have hj : j < 1:=hj; rcases (show j = 0 by omega) with rfl; exact ⟨rfl,by simp⟩) (by simp [diceB]) (by simp)
 · repeat' (first | intro (hb : _ = _) | refine ZV ?_ | refine ZB tm dc_specs_ok ?_ | refine ZH ?_ ?_ | refine ZJ (by conv=>lhs; simp [c1,m12]) ?_ | refine ZA ?_ ?_)
   refine ⟨(.int .i64 200,[diceB e]),⟨200,e,by decide,rfl⟩, ?_⟩
   exact RetB.raw [0] rfl (by conv=>lhs; simp) (by decide) (by rintro j hj; have hj : j < 1:=hj; rcases (show j = 0 by omega) with rfl; exact ⟨rfl,by simp⟩) (by simp [diceB]) (by simp)
 · repeat' (first | intro (hb : _ = _) | refine ZV ?_ | refine ZB tm dc_specs_ok ?_ | refine ZH ?_ ?_ | refine ZJ (by conv=>lhs; simp [c1,m12]) ?_ | refine ZA ?_ ?_)
   refine ⟨(.int .i64 14,[diceB e]),⟨14,e,by decide,rfl⟩, ?_⟩
   exact RetB.raw [0] rfl (by conv=>lhs; simp) (by decide) (by rintro j hj; have hj : j < 1:=hj; rcases (show j = 0 by omega) with rfl; exact ⟨rfl,by simp⟩) (by simp [diceB]) (by simp)
 · repeat' (first | intro (hb : _ = _) | refine ZV ?_ | refine ZB tm dc_specs_ok ?_ | refine ZH ?_ ?_ | refine ZJ (by conv=>lhs; simp [c1,m12]) ?_ | refine ZA ?_ ?_)
   refine ⟨(.int .i64 9,[diceB e]),⟨9,e,by decide,rfl⟩, ?_⟩
   exact RetB.raw [0] rfl (by conv=>lhs; simp) (by decide) (by rintro j hj; have hj : j < 1:=hj; rcases (show j = 0 by omega) with rfl; exact ⟨rfl,by simp⟩) (by simp [diceB]) (by simp)
end
section
attribute [local simp] instA slice3A slice3C
attribute [-simp] mkv
attribute [local simp] mkv_hd hdA_cons hdA_ob hdA_ob' dc_specs
abbrev DsN := {x : List UInt8 × Int // 0 ≤ x.2 ∧ x.2 ≤ 64}
def encDN (x : DsN) : List AV × List ABlk := encD x.1
theorem encDN_inj : ∀ x y : DsN,encDN x = encDN y → x = y := fun x y h => by
 obtain ⟨⟨a,b⟩,c⟩:=x
 obtain ⟨⟨a',b'⟩,c'⟩:=y
 simp only [encDN,encD,Prod.mk.injEq,List.cons.injEq,AV.int.injEq,true_and,and_true] at h
 obtain ⟨rfl,h2⟩:=h
 cases diceB_inj h2
 rfl
def BtP (_ : DsN) (r : AV × List ABlk) : Prop := ∃ bs ds' : List UInt8,bs.length ≤ 64 ∧ r = (.list 1 (bs.map byte),[diceB ds'])
theorem bt_ex : ∃ S,FnC Try.prog 72 S ∧ ∀ x, ∃ r,S (encDN x).1 (encDN x).2 = some r ∧ BtP x r := by
 refine FnC.existsB 72 (fn:=Try.f72) Try.func72 rfl (by kernel_rfl) (fun x b hb=>by simp [encDN,encD] at hb; rw [hb]; rfl) encDN_inj (fun ds=>⟨_,[],[],by simp,rfl⟩) fun x=>?_
 obtain ⟨⟨ds,n⟩,n0,n64⟩:=x
 dsimp only at n0 n64
 change W _ _ _ _ ⟨22,[(0, .ptr 0 0 0 0),(1, .int .i64 n)],[(0,diceB ds)]⟩
 have c1:=diceS_eq ds (n + 1)
 have b1:=dn_nonneg ds (n + 1)
 have b2:=dn_lt ds (n:=n + 1) (by omega)
 have hw : IntKind.i64.wrap (n + 1) = n + 1:=w64 (by omega) (by omega)
 generalize dl ds (n + 1) = e at *
 obtain ⟨kk,hkk⟩ : ∃ k : Nat,dn ds (n + 1) = k:=⟨_,(Int.toNat_of_nonneg b1).symm⟩
 rw [hkk] at c1 b2
 simp only [diceB] at c1 ⊢
 repeat' (first | intro (hb : _ = _) | refine ZV ?_ | refine ZB (id:=0) tm dc_specs_ok ?_ | refine ZB (id:=1) tm dc_specs_ok ?_ | refine ZB (id:=2) tm dc_specs_ok ?_ | refine ZH ?_ ?_ | refine ZJ (by conv=>lhs; simp [c1,hw]) ?_ | refine ZA ?_ ?_)
 refine W.phantom (t:=5) 20000 5 1 true (by rfl) (by rfl) (by decide) ?_
 refine W.loop rfl (ι:={ q : Nat × List UInt8 × Nat × List UInt8 × NL ABlk // q.2.1.length + q.1 ≤ 64 ∧ lk q.2.2.2.2 0 = some (diceB q.2.2.2.1) ∧ lk q.2.2.2.2 20000 = some { gen:=q.2.2.1,kind:=2,elem:=5,size:=1,inl:=true,rows:=q.2.1.map byte } })
   (fun q=>⟨22,[(0, .ptr 0 0 0 0),(5, .sl 20000 q.1.2.2.1 0 q.1.2.1.length),(6, .int .i64 (q.1.1 : Nat))],q.1.2.2.2.2⟩) (fun q=>q.1.1)
   ⟨(kk,[],0,e,_),by simp; omega,by simp [lk,lk_st,diceB],by simp [lk,lk_st]⟩ (AS.le_of rfl ⟨rfl,rfl,rfl,trivial⟩ (fun _=>rfl)) ?_
 clear c1 hkk b1 b2
 rintro ⟨⟨k,T,g,f,H⟩,hk,h0,gM⟩
 dsimp only at hk h0 gM ⊢
 simp only [diceB] at h0
 by_cases hk0 : k = 0
 · subst hk0
   have tT : List.take T.length (T.map byte) = T.map byte:=List.take_of_length_le (by simp)
   repeat' (first | intro (hb : _ = _) | refine ZV ?_ | refine ZB tm dc_specs_ok ?_ | refine ZH ?_ ?_ | refine ZJ (by conv=>lhs; simp [h0,gM]) ?_ | refine ZA ?_ ?_)
   refine ⟨(.list 1 (T.map byte),[diceB f]),⟨T,f,by omega,rfl⟩, ?_⟩
   refine RetB.mk true [0] rfl (by conv=>lhs; simp) (by conv=>lhs; simp [frqT,frqV,frqVs,frqL,frq1,frz1,AP.run,gM,tT]) (by decide) (by rintro j hj; have hj : j < 1:=hj; rcases (show j = 0 by omega) with rfl; exact ⟨rfl,by simp [lk_st,h0]⟩) (by simp [lk_st,h0,diceB]) (by simp)
 · have q1 : (0 : Int) < (k : Int):=by omega
   have q0 : 0 < k:=by omega
   have hw1 : IntKind.i64.wrap ((k : Int) - 1) = ((k - 1 : Nat) : Int):=by rw [w64 (by omega) (by omega)]; omega
   have c2:=diceS_eq f 256
   have r0:=dn_nonneg f 256
   have r1:=dn_lt f (n:=256) (by omega)
   generalize dl f 256 = f2 at *
   generalize dn f 256 = d at *
   obtain ⟨b,rfl⟩ : ∃ b : UInt8,d = (b.toNat : Int):=⟨UInt8.ofNat d.toNat,by simp; omega⟩
   have hu : IntKind.u8.wrap (b.toNat : Int) = (b.toNat : Int):=by
     simp only [IntKind.wrap,IntKind.signed,IntKind.bits]
     simp
     omega
   simp only [diceB] at c2
   have hrow : T.map byte ++ [[.int .u8 (b.toNat : Int)]] = (T ++ [b]).map byte:=by simp [byte]
   have hl2 : (T ++ [b]).length = T.length + 1:=by simp
   have y1 : T.length ≤ maxLen:=by simp only [maxLen]; omega
   have y2 : T.length + 1 ≤ 140737488355328:=by omega
   have y3 : T.length + 1 ≤ 281474976710656:=by omega
   have y4 : T.length + 1 ≤ maxLen:=by simp only [maxLen]; omega
   have fT : firstRows T.length (T.map byte) = T.map byte:=first_all (by simp)
   have m1 : (1 : Nat) ≤ maxLen:=by decide
   generalize T ++ [b] = T2 at *
   repeat' (first | intro (hb : _ = _) | refine ZV ?_ | refine ZB tm dc_specs_ok ?_ | refine ZH ?_ ?_ | refine ZJ (by conv=>lhs; simp [q1,q0,h0,gM,c2,hu,hw1,y1,y2,y3,y4,fT,hrow,m1]) ?_ | refine ZA ?_ ?_)
   exact ⟨⟨(k - 1,T2,g + 1,f2,_),by dsimp only; omega,by simp [lk_st,diceB],by simp [lk_st]⟩,by dsimp only; omega,AS.le_of rfl ⟨rfl,by simp [lk,hl2],rfl,trivial⟩ (fun _=>rfl)⟩
end
section
attribute [local simp] instA slice3A slice3C makeSliceA
attribute [-simp] mkv
attribute [local simp] mkv_hd hdA_cons hdA_ob hdA_ob' dc_specs
theorem byte_row (b : UInt8) : TyR Try.prog 3 5 (byte b) := tyInt (by kernel_rfl) (by
 have:=b.toNat_lt
 simp only [Lit.wf,IntKind.min,IntKind.max,IntKind.signed,IntKind.bits]
 simp
 omega)
theorem bdRows_byte (l : List UInt8) : bdRows 10000 (l.map byte) = true := by
 induction l with
 | nil=>rfl
 | cons b r ih=>simp [bdRows,bdL,bdV,byte,ih]
theorem rwOK_bytes {l : List UInt8} (h : l.length ≤ 64) : RwOK 5 (l.map byte) := ⟨by simp; omega,fun row hr => by
 obtain ⟨b,_,rfl⟩:=List.mem_map.1 hr
 exact byte_row b,bdRows_byte l⟩
abbrev DsI := {x : List UInt8 × Int // (Lit.int .u64 x.2).wf = true}
def encDI (x : DsI) : List AV × List ABlk := ([.ptr 0 0 0 0, .int .u64 x.1.2],[diceB x.1.1])
theorem encDI_inj : ∀ x y : DsI,encDI x = encDI y → x = y := fun x y h => by
 obtain ⟨⟨a,b⟩,c⟩:=x
 obtain ⟨⟨a',b'⟩,c'⟩:=y
 simp only [encDI,Prod.mk.injEq,List.cons.injEq,AV.int.injEq,true_and,and_true] at h
 obtain ⟨rfl,h2⟩:=h
 cases diceB_inj h2
 rfl
def OxP {α : Type} (_ : α) (r : AV × List ABlk) : Prop := ∃ (o : Ox) (ds' : List UInt8),o.OK ∧ r = (.agg o.cells,[diceB ds'])
theorem wfk {k : Int} (h : -100 ≤ k) (h2 : k ≤ 10000) : (Lit.int .i64 k).wf = true := by
 simp only [Lit.wf,IntKind.min,IntKind.max,IntKind.signed,IntKind.bits]
 simp
 omega
theorem mkOK {id k n p6 i7 p8 p9 c0 c1 s : Int} {w b tl b0 b1 nm : List (List AV)} (hid : (Lit.int .u64 id).wf = true) (hk : (Lit.int .i64 k).wf = true := by decide) (hn : (Lit.int .i64 n).wf = true := by decide) (hw : RwOK 2 w := by exact rwOK_nil _) (hb : RwOK 5 b := by exact rwOK_nil _) (hp6 : (Lit.int .i64 p6).wf = true := by decide) (hi7 : (Lit.int .u64 i7).wf = true := by decide) (hp8 : (Lit.int .i64 p8).wf = true := by decide) (hp9 : (Lit.int .i64 p9).wf = true := by decide) (htl : RwOK 30 tl := by exact rwOK_nil _) (hb0 : RwOK 5 b0 := by exact rwOK_nil _) (hb1 : RwOK 5 b1 := by exact rwOK_nil _) (hc0 : (Lit.int .i64 c0).wf = true := by decide) (hc1 : (Lit.int .i64 c1).wf = true := by decide) (hs : (Lit.int .i64 s).wf = true := by decide) (hnm : RwOK 106 nm := by exact rwOK_nil _) : Ox.OK ⟨id,k,n,w,b,p6,i7,p8,p9,tl,b0,b1,c0,c1,s,nm⟩ := ⟨hid,hk,hn,hw,hb,hp6,hi7,hp8,hp9,htl,hb0,hb1,hc0,hc1,hs,hnm⟩
theorem OxP.ne {α : Type} (x : α) : ∃ r,OxP x r := ⟨_,oxz 1 0 0,[],⟨by decide,by decide,by decide,rwOK_nil _,rwOK_nil _,by decide,by decide,by decide,by decide,rwOK_nil _,rwOK_nil _,rwOK_nil _,by decide,by decide,by decide,rwOK_nil _⟩,rfl⟩
theorem fil_ex : ∃ S,FnC Try.prog 42 S ∧ ∀ x, ∃ r,S (encDI x).1 (encDI x).2 = some r ∧ OxP x r := by
 obtain ⟨SB,hSB,hSBe⟩:=bt_ex
 have sp : ∀ p ∈ ([(71,⟨1,ocS o08⟩),(72,⟨3,SB⟩)] : NL Spec),FnC Try.prog p.1 p.2.fn:=by
   simp only [List.mem_cons,List.not_mem_nil,or_false]
   rintro p (rfl | rfl)
   · exact n08_ok
   · exact hSB
 refine FnC.existsB 42 (fn:=Try.f42) Try.func42 rfl (by kernel_rfl) (fun x b hb=>by simp [encDI] at hb; rw [hb]; rfl) encDI_inj OxP.ne fun x=>?_
 obtain ⟨⟨ds,id⟩,hid⟩:=x
 dsimp only at hid
 change W _ _ _ _ ⟨12,[(0, .ptr 0 0 0 0),(1, .int .u64 id)],[(0,diceB ds)]⟩
 have c1:=ocS_eq o08 id
 obtain ⟨_,c2,bs,e,hb,rfl⟩:=hSBe ⟨(ds,12),by simp,by simp⟩
 simp only [encDN,encD] at c2
 simp only [diceB] at c2 ⊢
 simp only [o08,Ox.cells] at c1
 repeat' (first | intro (hb : _ = _) | refine ZV ?_ | refine ZB tm sp ?_ | refine ZH ?_ ?_ | refine ZJ (by conv=>lhs; simp [c1,c2]) ?_ | refine ZA ?_ ?_)
 refine ⟨(.agg (Ox.cells ⟨id,3,0,[],bs.map byte,0,0,0,0,[],[],[],0,0,0,[]⟩),[diceB e]),⟨_,e,mkOK hid (hb:=rwOK_bytes hb),rfl⟩, ?_⟩
 exact RetB.raw [0] rfl (by conv=>lhs; simp) (by decide) (by rintro j hj; have hj : j < 1:=hj; rcases (show j = 0 by omega) with rfl; exact ⟨rfl,by simp⟩) (by simp [diceB]) (by simp [Ox.cells])
end
section
attribute [local simp] instA slice3A slice3C makeSliceA
attribute [-simp] mkv
attribute [local simp] mkv_hd hdA_cons hdA_ob hdA_ob' dc_specs
theorem nfB : (Try.prog.info? 5).map (fun i => (i.size,i.bytes)) = some (1,1) := by kernel_rfl
theorem nfB_ex : ∃ i,Try.prog.info? 5 = some i ∧ i.size = 1 ∧ i.bytes = 1 := by
 have h:=nfB
 rw [Option.map_eq_some_iff] at h
 obtain ⟨i,h1,h2⟩:=h
 exact ⟨i,h1,congrArg Prod.fst h2,congrArg Prod.snd h2⟩
def z64 : List UInt8 := List.replicate 64 0
theorem z64_eq : z64.map byte = List.replicate 64 [.int .u8 0] := by simp [z64,byte]
theorem wfs {k : Int} (h : 0 ≤ k) (h2 : k < 10000) : (Lit.int .i64 k).wf = true := wfk (by omega) (by omega)
theorem pip_ex : ∃ S,FnC Try.prog 44 S ∧ ∀ x, ∃ r,S (encDI x).1 (encDI x).2 = some r ∧ OxP x r := by
 obtain ⟨SB,hSB,hSBe⟩:=bt_ex
 have sp : ∀ p ∈ ([(73,⟨1,ocS o11⟩),(17,⟨3,diceS⟩),(72,⟨3,SB⟩)] : NL Spec),FnC Try.prog p.1 p.2.fn:=by
   simp only [List.mem_cons,List.not_mem_nil,or_false]
   rintro p (rfl | rfl | rfl)
   · exact n11_ok
   · exact dice_ok
   · exact hSB
 refine FnC.existsB 44 (fn:=Try.f44) Try.func44 rfl (by kernel_rfl) (fun x b hb=>by simp [encDI] at hb; rw [hb]; rfl) encDI_inj OxP.ne fun x=>?_
 obtain ⟨⟨ds,id⟩,hid⟩:=x
 dsimp only at hid
 change W _ _ _ _ ⟨30,[(0, .ptr 0 0 0 0),(1, .int .u64 id)],[(0,diceB ds)]⟩
 have c1:=ocS_eq o11 id
 have d1:=diceS_eq ds 3
 have d2:=diceS_eq (dl ds 3) 3
 have a0:=dn_nonneg ds 3
 have a1:=dn_lt ds (n:=3) (by omega)
 have b0:=dn_nonneg (dl ds 3) 3
 have b1:=dn_lt (dl ds 3) (n:=3) (by omega)
 generalize dl ds 3 = e1 at *
 generalize dl e1 3 = e2 at *
 generalize dn ds 3 = a at *
 generalize dn e1 3 = b at *
 obtain ⟨_,c2,bs,e3,hb,rfl⟩:=hSBe ⟨(e2,5),by simp,by simp⟩
 have d3:=diceS_eq e3 5
 generalize dl e3 5 = e4 at *
 generalize dn e3 5 = u at *
 have hw : IntKind.i64.wrap (a + b) = a + b:=w64 (by omega) (by omega)
 obtain ⟨nf,nf1,nf2,nf3⟩:=nfB_ex
 simp only [encDN,encD] at c2
 simp only [diceB] at c2 d1 d2 d3 ⊢
 simp only [o11,Ox.cells] at c1
 obtain ⟨a',ha',k1,k2,k3⟩ : ∃ a',((a + b == 0) = true ∧ a' = 1 ∨ (a + b == 0) = false ∧ a' = a) ∧ 0 ≤ a' ∧ a' < 10000 ∧ True:=by
   cases h : (a + b == 0)
   case true=>exact ⟨1, .inl ⟨rfl,rfl⟩,by omega,by omega,trivial⟩
   case false=>exact ⟨a, .inr ⟨rfl,rfl⟩,a0,by omega,trivial⟩
 by_cases hu : u = 4
 · subst hu
   rcases ha' with ⟨h,rfl⟩ | ⟨h,rfl⟩
   all_goals
     repeat' (first | intro (hb : _ = _) | refine ZV ?_ | refine ZB tm sp ?_ | refine ZH ?_ ?_ | refine ZJ (by conv=>lhs; simp [c1,c2,d1,d2,d3,hw,h,nf1,nf2,nf3]) ?_ | refine ZA ?_ ?_)
     refine ⟨(.agg (Ox.cells ⟨id,5,0,[],z64.map byte,0,0,_,b,[],[],[],0,0,0,[]⟩),[diceB e4]),⟨_,e4,mkOK hid (hb:=rwOK_bytes (by decide)) (hp8:=wfs k1 k2) (hp9:=wfs b0 (by omega)),rfl⟩, ?_⟩
     refine RetB.mk true [0] rfl (by conv=>lhs; simp) (by conv=>lhs; simp) (by decide) (by rintro j hj; have hj : j < 1:=hj; rcases (show j = 0 by omega) with rfl; exact ⟨rfl,by simp⟩) (by simp [diceB]) (by simp [Ox.cells,z64_eq,List.replicate])
 · have hu : (u == 4) = false:=by simpa using hu
   rcases ha' with ⟨h,rfl⟩ | ⟨h,rfl⟩
   all_goals
     repeat' (first | intro (hb : _ = _) | refine ZV ?_ | refine ZB tm sp ?_ | refine ZH ?_ ?_ | refine ZJ (by conv=>lhs; simp [c1,c2,d1,d2,d3,hw,h,hu]) ?_ | refine ZA ?_ ?_)
     refine ⟨(.agg (Ox.cells ⟨id,5,0,[],bs.map byte,0,0,_,b,[],[],[],0,0,0,[]⟩),[diceB e4]),⟨_,e4,mkOK hid (hb:=rwOK_bytes hb) (hp8:=wfs k1 k2) (hp9:=wfs b0 (by omega)),rfl⟩, ?_⟩
     exact RetB.raw [0] rfl (by conv=>lhs; simp) (by decide) (by rintro j hj; have hj : j < 1:=hj; rcases (show j = 0 by omega) with rfl; exact ⟨rfl,by simp⟩) (by simp [diceB]) (by simp [Ox.cells])
end
section
attribute [local simp] instA slice3A slice3C makeSliceA
attribute [-simp] mkv
attribute [local simp] mkv_hd hdA_cons hdA_ob hdA_ob' dc_specs
abbrev IdN := {x : Int × Int // 0 ≤ x.2 ∧ x.2 ≤ 100}
def o13 (id n : Int) : Ox := if id = 0 then oxz 0 0 0 else ⟨id,8,0,[],[],0,0,0,0,[],[],[],0,0,n,[]⟩
def e13 (id : Int) : Int := if id = 0 then 1 else 0
noncomputable def n13S : SpecFn := mkS (fun d : IdN => [.int .u64 d.1.1, .int .i64 d.1.2]) fun d => (.tup [.agg (o13 d.1.1 d.1.2).cells, .int .i64 (e13 d.1.1)],[])
theorem n13S_eq (id n : Int) (h0 : 0 ≤ n) (h1 : n ≤ 100) : n13S [.int .u64 id, .int .i64 n] [] = some (.tup [.agg (o13 id n).cells, .int .i64 (e13 id)],[]) :=
 mkS_eq (enc:=fun d : IdN=>[AV.int .u64 d.1.1, .int .i64 d.1.2]) (res:=fun d=>(.tup [.agg (o13 d.1.1 d.1.2).cells, .int .i64 (e13 d.1.1)],[])) (fun x y h=>by
   simp only [List.cons.injEq,AV.int.injEq,true_and,and_true] at h
   rw [h.1,h.2]) ⟨(id,n),h0,h1⟩
theorem oxt_nrm (id k n p6 i7 p8 p9 c0 c1 s e : Int) : nrmR Try.prog [48,51] (.tup [.agg [.int .u64 id, .int .i64 k, .int .i64 n, .int .i64 0, .int .u64 0, .nils, .nils, .nils, .int .i64 0, .int .i64 0, .int .i64 0, .int .i64 0, .int .i64 0, .int .i64 0, .int .i64 0, .int .i64 0, .int .i64 0, .int .i64 0, .nils, .nils, .int .i64 0, .int .i64 0, .int .i64 0, .nils, .nils, .int .i64 p6, .int .u64 i7, .int .i64 p8, .int .i64 p9, .nils, .nils, .nils, .int .i64 c0, .int .i64 c1, .int .i64 s, .nils], .int .i64 e]) = .tup [.agg (Ox.cells ⟨id,k,n,[],[],p6,i7,p8,p9,[],[],[],c0,c1,s,[]⟩), .int .i64 e] := by kernel_rfl
theorem oxt_id (id k n p6 i7 p8 p9 c0 c1 s e : Int) : nrmR Try.prog [48,51] (.tup [.agg (Ox.cells ⟨id,k,n,[],[],p6,i7,p8,p9,[],[],[],c0,c1,s,[]⟩), .int .i64 e]) = .tup [.agg (Ox.cells ⟨id,k,n,[],[],p6,i7,p8,p9,[],[],[],c0,c1,s,[]⟩), .int .i64 e] := by kernel_rfl
theorem n13_ok : FnC Try.prog 47 n13S := by
 refine FnC.walkN 47 (fn:=Try.f47) [48,51] Try.func47 rfl (by kernel_rfl) (fun d=>?_) (fun d=>⟨.tup [.agg (o13 d.1.1 d.1.2).cells, .int .i64 (e13 d.1.1)],by
   unfold o13
   split
   · exact oxt_id 0 0 0 0 0 0 0 0 0 0 _
   · exact oxt_id _ 8 0 0 0 0 0 0 0 _ _⟩)
 obtain ⟨⟨id,n⟩,h0,h1⟩:=d
 dsimp only at h0 h1
 change W _ (RetNf _ _ _ (.tup [.agg (o13 id n).cells, .int .i64 (e13 id)]) []) _ _ ⟨19,[(0, .int .u64 id),(1, .int .i64 n)],[]⟩
 by_cases h : id = 0
 · subst h
   repeat' (first | intro (hb : _ = _) | refine ZV ?_ | refine ZB tm no_specs ?_ | refine ZH ?_ ?_ | refine ZJ (by conv=>lhs; simp) ?_ | refine ZA ?_ ?_)
   refine Ye ?_
   exact oxt_nrm 0 0 0 0 0 0 0 0 0 0 1
 · have hz : (id == 0) = false:=by simpa using h
   have q1 : ¬ n < 0:=by omega
   have q2 : ¬ 1073741824 < n:=by omega
   rw [o13,e13,if_neg h,if_neg h]
   repeat' (first | intro (hb : _ = _) | refine ZV ?_ | refine ZB tm no_specs ?_ | refine ZH ?_ ?_ | refine ZJ (by conv=>lhs; simp [hz,q1,q2]) ?_ | refine ZA ?_ ?_)
   refine Ye ?_
   exact oxt_nrm id 8 0 0 0 0 0 0 0 n 0
theorem tg2 : Try.prog.eqGuardType Try.prog.depth 45 = false := by kernel_rfl
theorem eqi (d : Nat) (a b : Int) : eqV Try.prog (d + 1) 3 (.int .i64 a) (.int .i64 b) = some (a == b) := by simp [eqV,Try.underlying3]
theorem isI : (Try.prog.info? 3).isSome = true := by kernel_rfl
theorem cI2 : Try.prog.cellsOf 3 = 1 := by kernel_rfl
theorem pI0 (a b : Int) : partV Try.prog 3 [.int .i64 a, .int .i64 b] 0 = some (.int .i64 a) := by kernel_rfl
theorem pI1 (a b : Int) : partV Try.prog 3 [.int .i64 a, .int .i64 b] 1 = some (.int .i64 b) := by kernel_rfl
theorem eqV_arr {P : Program} {d n : Nat} {t e : TypeId} {xs ys : List AV} (h : P.underlying t = some (.array n e)) : eqV P (d + 1) t (.agg xs) (.agg ys) = if (P.info? e).isSome then eqIs P (eqV P d) e (P.cellsOf e) xs ys (List.range n) else none := by simp only [eqV,h]
theorem eq2 (a b : Int) : eqV Try.prog 9 45 (.agg [.int .i64 a, .int .i64 b]) (.agg [.int .i64 0, .int .i64 0]) = some (a == 0 && (b == 0 && true)) := by
 rw [eqV_arr (e:=3) (n:=2) (by kernel_rfl),isI,if_pos rfl,cI2]
 show eqIs Try.prog (eqV Try.prog (7 + 1)) 3 1 _ _ [0,1] = _
 simp only [eqIs,Nat.zero_mul,Nat.one_mul,pI0,pI1,eqi]
theorem eql2 (a b : Int) : eqlA Try.prog .eql 45 (.agg [.int .i64 a, .int .i64 b]) (.agg [.int .i64 0, .int .i64 0]) = .ret (.bool (a == 0 && (b == 0 && true))) := by
 simp [eqlA,tg2,eq2]
end
section
attribute [local simp] instA slice3A slice3C makeSliceA
attribute [-simp] mkv
attribute [local simp] mkv_hd hdA_cons hdA_ob hdA_ob' dc_specs
theorem chn_ex : ∃ S,FnC Try.prog 46 S ∧ ∀ x, ∃ r,S (encDI x).1 (encDI x).2 = some r ∧ OxP x r := by
 obtain ⟨SB,hSB,hSBe⟩:=bt_ex
 have sp : ∀ p ∈ ([(76,⟨1,ocS o12⟩),(17,⟨3,diceS⟩),(72,⟨3,SB⟩)] : NL Spec),FnC Try.prog p.1 p.2.fn:=by
   simp only [List.mem_cons,List.not_mem_nil,or_false]
   rintro p (rfl | rfl | rfl)
   · exact n12_ok
   · exact dice_ok
   · exact hSB
 refine FnC.existsB 46 (fn:=Try.f46) Try.func46 rfl (by kernel_rfl) (fun x b hb=>by simp [encDI] at hb; rw [hb]; rfl) encDI_inj OxP.ne fun x=>?_
 obtain ⟨⟨ds,id⟩,hid⟩:=x
 dsimp only at hid
 change W _ _ _ _ ⟨35,[(0, .ptr 0 0 0 0),(1, .int .u64 id)],[(0,diceB ds)]⟩
 have c1:=ocS_eq o12 id
 have d1:=diceS_eq ds 3
 have d2:=diceS_eq (dl ds 3) 3
 have a0:=dn_nonneg ds 3
 have a1:=dn_lt ds (n:=3) (by omega)
 have b0:=dn_nonneg (dl ds 3) 3
 have b1:=dn_lt (dl ds 3) (n:=3) (by omega)
 generalize dl ds 3 = e1 at *
 generalize dl e1 3 = e2 at *
 generalize dn ds 3 = a at *
 generalize dn e1 3 = b at *
 obtain ⟨_,c2,bs,e3,hb,rfl⟩:=hSBe ⟨(e2,4),by simp,by simp⟩
 obtain ⟨_,c3,bt,e4,ht,rfl⟩:=hSBe ⟨(e3,4),by simp,by simp⟩
 have d3:=diceS_eq e4 5
 generalize dl e4 5 = e5 at *
 generalize dn e4 5 = u at *
 have d4:=diceS_eq e5 2
 have j0:=dn_nonneg e5 2
 have j1:=dn_lt e5 (n:=2) (by omega)
 generalize dl e5 2 = e6 at *
 generalize dn e5 2 = j at *
 obtain ⟨nf,nf1,nf2,nf3⟩:=nfB_ex
 simp only [encDN,encD] at c2 c3
 simp only [diceB] at c2 c3 d1 d2 d3 d4 ⊢
 simp only [o12,Ox.cells] at c1
 have e2':=eql2 a b
 obtain ⟨b',z,hb',k1,k2⟩ : ∃ b' z,((a == 0 && (b == 0 && true)) = z ∧ (z = true ∧ b' = 1 ∨ z = false ∧ b' = b)) ∧ 0 ≤ b' ∧ b' < 10000:=by
   cases h : (a == 0 && (b == 0 && true))
   case true=>exact ⟨1,_,⟨rfl, .inl ⟨rfl,rfl⟩⟩,by omega,by omega⟩
   case false=>exact ⟨b,_,⟨rfl, .inr ⟨rfl,rfl⟩⟩,b0,by omega⟩
 obtain ⟨hz,hb'⟩:=hb'
 rw [hz] at e2'
 clear hz
 by_cases hu : u = 4
 · subst hu
   have hj : j = 0 ∨ j = 1:=by omega
   rcases hj with rfl | rfl
   · rcases hb' with ⟨rfl,rfl⟩ | ⟨rfl,rfl⟩
     all_goals
       repeat' (first | intro (hb : _ = _) | refine ZV ?_ | refine ZB tm sp ?_ | refine ZH ?_ ?_ | refine ZJ (by conv=>lhs; simp [c1,c2,c3,d1,d2,d3,d4,e2',nf1,nf2,nf3]) ?_ | refine ZA ?_ ?_)
       refine ⟨(.agg (Ox.cells ⟨id,7,0,[],[],0,0,0,0,[],z64.map byte,bt.map byte,a,_,0,[]⟩),[diceB e6]),⟨_,e6,mkOK hid (hb0:=rwOK_bytes (by decide)) (hb1:=rwOK_bytes ht) (hc0:=wfs a0 (by omega)) (hc1:=wfs k1 k2),rfl⟩, ?_⟩
       refine RetB.mk true [0] rfl (by conv=>lhs; simp) (by conv=>lhs; simp) (by decide) (by rintro j hj; have hj : j < 1:=hj; rcases (show j = 0 by omega) with rfl; exact ⟨rfl,by simp⟩) (by simp [diceB]) (by simp [Ox.cells,z64_eq,List.replicate])
   · rcases hb' with ⟨rfl,rfl⟩ | ⟨rfl,rfl⟩
     all_goals
       repeat' (first | intro (hb : _ = _) | refine ZV ?_ | refine ZB tm sp ?_ | refine ZH ?_ ?_ | refine ZJ (by conv=>lhs; simp [c1,c2,c3,d1,d2,d3,d4,e2',nf1,nf2,nf3]) ?_ | refine ZA ?_ ?_)
       refine ⟨(.agg (Ox.cells ⟨id,7,0,[],[],0,0,0,0,[],bs.map byte,z64.map byte,a,_,0,[]⟩),[diceB e6]),⟨_,e6,mkOK hid (hb0:=rwOK_bytes hb) (hb1:=rwOK_bytes (by decide)) (hc0:=wfs a0 (by omega)) (hc1:=wfs k1 k2),rfl⟩, ?_⟩
       refine RetB.mk true [0] rfl (by conv=>lhs; simp) (by conv=>lhs; simp) (by decide) (by rintro j hj; have hj : j < 1:=hj; rcases (show j = 0 by omega) with rfl; exact ⟨rfl,by simp⟩) (by simp [diceB]) (by simp [Ox.cells,z64_eq,List.replicate])
 · have hu : (u == 4) = false:=by simpa using hu
   rcases hb' with ⟨rfl,rfl⟩ | ⟨rfl,rfl⟩
   all_goals
     repeat' (first | intro (hb : _ = _) | refine ZV ?_ | refine ZB tm sp ?_ | refine ZH ?_ ?_ | refine ZJ (by conv=>lhs; simp [c1,c2,c3,d1,d2,d3,e2',hu]) ?_ | refine ZA ?_ ?_)
     refine ⟨(.agg (Ox.cells ⟨id,7,0,[],[],0,0,0,0,[],bs.map byte,bt.map byte,a,_,0,[]⟩),[diceB e5]),⟨_,e5,mkOK hid (hb0:=rwOK_bytes hb) (hb1:=rwOK_bytes ht) (hc0:=wfs a0 (by omega)) (hc1:=wfs k1 k2),rfl⟩, ?_⟩
     exact RetB.raw [0] rfl (by conv=>lhs; simp) (by decide) (by rintro j hj; have hj : j < 1:=hj; rcases (show j = 0 by omega) with rfl; exact ⟨rfl,by simp⟩) (by simp [diceB]) (by simp [Ox.cells])
end
end Go.Abs.Nn
