/- Lists that are equal are the same. Conditions: none. -/
import Derived.Test.YtphclapfniepoaaGreatNx1
import Derived.Test.YtphclapfniepoaaGreatAb8
import Derived.Test.YtphclapfniepoaaGreatAb9
import Derived.Test.YtphclapfniepoaaGreatAb6
namespace Go.Abs.Nx
open Go Go.Proofs Go.Abs
set_option maxRecDepth 100000
set_option maxHeartbeats 4000000
set_option linter.unusedSimpArgs false
set_option linter.unusedVariables false
section
theorem tgP : Tryz.prog.eqGuardType Tryz.prog.depth 128 = false := by kernel_rfl
theorem tgS : Tryz.prog.eqGuardType Tryz.prog.depth 131 = false := by kernel_rfl
theorem tgI : Tryz.prog.eqGuardType Tryz.prog.depth 144 = false := by kernel_rfl
theorem thP : Tryz.prog.stoodInHeld 128 = false := by kernel_rfl
theorem thS : Tryz.prog.stoodInHeld 131 = false := by kernel_rfl
theorem thI : Tryz.prog.stoodInHeld 144 = false := by kernel_rfl
theorem eqPg (a : Int) (b : Bool) : eqV Tryz.prog 9 128 (.agg [.int .u64 a, .bool b]) (.agg [.int .u64 a, .bool b]) = some true := by
 simp [eqV,Tryz.underlying128,Tryz.underlying26,Tryz.underlying4,thP,eqFs,partV]
theorem eqSl (a b c d : Int) : eqV Tryz.prog 9 131 (.agg [.int .i64 a, .int .u64 b, .int .u64 c, .int .i64 d]) (.agg [.int .i64 a, .int .u64 b, .int .u64 c, .int .i64 d]) = some true := by
 simp [eqV,Tryz.underlying131,Tryz.underlying26,Tryz.underlying3,thS,eqFs,partV]
theorem eqIn (a b c d : Int) : eqV Tryz.prog 9 144 (.agg [.int .i64 a, .int .i64 b, .int .i64 c, .int .i64 d]) (.agg [.int .i64 a, .int .i64 b, .int .i64 c, .int .i64 d]) = some true := by
 simp [eqV,Tryz.underlying144,Tryz.underlying3,Tryz.underlying2,thI,eqFs,partV]
theorem bne_self' {α : Type} [BEq α] [LawfulBEq α] (a : α) : (a != a) = false := by simp only [bne,beq_self_eq_true,Bool.not_true]
attribute [local simp] instA binOpA eqlA tgP tgS tgI eqPg eqSl eqIn
structure Rw (P : Program) (t : TypeId) where
 rows : List (List AV)
 ty : ∀ r ∈ rows,TyR P 8 t r
 bd : rows.length ≤ 10000
theorem Rw.ext {P : Program} {t : TypeId} {a b : Rw P t} (h : a.rows = b.rows) : a = b := by
 cases a; cases b; simp only at h; subst h; rfl
noncomputable def smS (t : TypeId) (sz : Nat) : SpecFn := mkS (fun d : Rw Tryz.prog t => [.list sz d.rows, .list sz d.rows]) fun _ => (.bool true,[])
theorem smS_eq (t : TypeId) (sz : Nat) (d : Rw Tryz.prog t) : smS t sz [.list sz d.rows, .list sz d.rows] [] = some (.bool true,[]) :=
 mkS_eq (enc:=fun d : Rw Tryz.prog t=>[AV.list sz d.rows, .list sz d.rows]) (fun x y _=>rfl) d
theorem smw_ok : FnC Tryz.prog 65 (smS 2 1) := by
 refine FnC.walk 65 (fn:=Tryz.f65) Tryz.func65 rfl (by kernel_rfl) fun d=>?_
 obtain ⟨rows,hty,hl⟩:=d
 change W _ (Ret _ _ (.bool true) []) _ _ ⟨26,[(0, .list 1 rows),(1, .list 1 rows)],[]⟩
 have cap : rows.length ≤ 9223372036854775807:=capT hl
 repeat (first | refine ZS ?_ | refine ZK tm no_specs rfl (by conv=>lhs; simp [cap]) fun _=>?_ | refine ZL tm no_specs rfl (by conv=>lhs; simp [cap]) fun _=>?_)
 refine W.loop rfl (ι:={ k : Nat // k ≤ rows.length }) (fun k=>⟨26,[(0, .list 1 rows),(1, .list 1 rows),(12, .int .i64 rows.length),(13, .int .i64 (k.1 : Nat))],[]⟩) (fun k=>rows.length - k.1) ⟨0,by omega⟩ (AS.le_of rfl ⟨rfl,rfl,rfl,rfl,trivial⟩ (fun _=>rfl)) ?_
 rintro ⟨k,hk⟩
 by_cases hk2 : k = rows.length
 · subst hk2
   repeat (first | refine ZS ?_ | refine ZK tm no_specs rfl (by conv=>lhs; simp [cap]) fun _=>?_ | refine ZL tm no_specs rfl (by conv=>lhs; simp [cap]) fun _=>?_)
   exact Yr
 · have hlt : k < rows.length:=by omega
   obtain ⟨r,hr⟩:=get_lt hlt
   have hm:=List.mem_of_getElem? hr
   obtain ⟨u,rfl, -⟩:=by simpa only [TyR_int Tryz.underlying2] using hty r hm
   have q1 : (k : Int) < rows.length:=by omega
   have q2 : ¬ rows.length ≤ k:=by omega
   have hw : IntKind.i64.wrap ((k : Int) + 1) = ((k + 1 : Nat) : Int):=w64 (by omega) (by omega)
   repeat (first | refine ZS ?_ | refine ZK tm no_specs rfl (by conv=>lhs; simp [q1,q2,hr,hw,cap,bne_self']) fun _=>?_ | refine ZL tm no_specs rfl (by conv=>lhs; simp [q1,q2,hr,hw,cap,bne_self']) fun _=>?_)
   exact ⟨⟨k + 1,hlt⟩,by dsimp only; omega,AS.le_of rfl ⟨rfl,rfl,rfl,rfl,trivial⟩ (fun _=>rfl)⟩
theorem smi_ok : FnC Tryz.prog 66 (smS 26 1) := by
 refine FnC.walk 66 (fn:=Tryz.f66) Tryz.func66 rfl (by kernel_rfl) fun d=>?_
 obtain ⟨rows,hty,hl⟩:=d
 change W _ (Ret _ _ (.bool true) []) _ _ ⟨26,[(0, .list 1 rows),(1, .list 1 rows)],[]⟩
 have cap : rows.length ≤ 9223372036854775807:=capT hl
 repeat (first | refine ZS ?_ | refine ZK tm no_specs rfl (by conv=>lhs; simp [cap]) fun _=>?_ | refine ZL tm no_specs rfl (by conv=>lhs; simp [cap]) fun _=>?_)
 refine W.loop rfl (ι:={ k : Nat // k ≤ rows.length }) (fun k=>⟨26,[(0, .list 1 rows),(1, .list 1 rows),(12, .int .i64 rows.length),(13, .int .i64 (k.1 : Nat))],[]⟩) (fun k=>rows.length - k.1) ⟨0,by omega⟩ (AS.le_of rfl ⟨rfl,rfl,rfl,rfl,trivial⟩ (fun _=>rfl)) ?_
 rintro ⟨k,hk⟩
 by_cases hk2 : k = rows.length
 · subst hk2
   repeat (first | refine ZS ?_ | refine ZK tm no_specs rfl (by conv=>lhs; simp [cap]) fun _=>?_ | refine ZL tm no_specs rfl (by conv=>lhs; simp [cap]) fun _=>?_)
   exact Yr
 · have hlt : k < rows.length:=by omega
   obtain ⟨r,hr⟩:=get_lt hlt
   have hm:=List.mem_of_getElem? hr
   obtain ⟨u,rfl, -⟩:=by simpa only [TyR_int Tryz.underlying26] using hty r hm
   have q1 : (k : Int) < rows.length:=by omega
   have q2 : ¬ rows.length ≤ k:=by omega
   have hw : IntKind.i64.wrap ((k : Int) + 1) = ((k + 1 : Nat) : Int):=w64 (by omega) (by omega)
   repeat (first | refine ZS ?_ | refine ZK tm no_specs rfl (by conv=>lhs; simp [q1,q2,hr,hw,cap,bne_self']) fun _=>?_ | refine ZL tm no_specs rfl (by conv=>lhs; simp [q1,q2,hr,hw,cap,bne_self']) fun _=>?_)
   exact ⟨⟨k + 1,hlt⟩,by dsimp only; omega,AS.le_of rfl ⟨rfl,rfl,rfl,rfl,trivial⟩ (fun _=>rfl)⟩
theorem sms_ok : FnC Tryz.prog 101 (smS 9 1) := by
 refine FnC.walk 101 (fn:=Tryz.f101) Tryz.func101 rfl (by kernel_rfl) fun d=>?_
 obtain ⟨rows,hty,hl⟩:=d
 change W _ (Ret _ _ (.bool true) []) _ _ ⟨26,[(0, .list 1 rows),(1, .list 1 rows)],[]⟩
 have cap : rows.length ≤ 9223372036854775807:=capT hl
 repeat (first | refine ZS ?_ | refine ZK tm no_specs rfl (by conv=>lhs; simp [cap]) fun _=>?_ | refine ZL tm no_specs rfl (by conv=>lhs; simp [cap]) fun _=>?_)
 refine W.loop rfl (ι:={ k : Nat // k ≤ rows.length }) (fun k=>⟨26,[(0, .list 1 rows),(1, .list 1 rows),(12, .int .i64 rows.length),(13, .int .i64 (k.1 : Nat))],[]⟩) (fun k=>rows.length - k.1) ⟨0,by omega⟩ (AS.le_of rfl ⟨rfl,rfl,rfl,rfl,trivial⟩ (fun _=>rfl)) ?_
 rintro ⟨k,hk⟩
 by_cases hk2 : k = rows.length
 · subst hk2
   repeat (first | refine ZS ?_ | refine ZK tm no_specs rfl (by conv=>lhs; simp [cap]) fun _=>?_ | refine ZL tm no_specs rfl (by conv=>lhs; simp [cap]) fun _=>?_)
   exact Yr
 · have hlt : k < rows.length:=by omega
   obtain ⟨r,hr⟩:=get_lt hlt
   have hm:=List.mem_of_getElem? hr
   obtain ⟨u,rfl, -⟩:=by simpa only [TyR_string Tryz.underlying9] using hty r hm
   have q1 : (k : Int) < rows.length:=by omega
   have q2 : ¬ rows.length ≤ k:=by omega
   have hw : IntKind.i64.wrap ((k : Int) + 1) = ((k + 1 : Nat) : Int):=w64 (by omega) (by omega)
   repeat (first | refine ZS ?_ | refine ZK tm no_specs rfl (by conv=>lhs; simp [q1,q2,hr,hw,cap,bne_self']) fun _=>?_ | refine ZL tm no_specs rfl (by conv=>lhs; simp [q1,q2,hr,hw,cap,bne_self']) fun _=>?_)
   exact ⟨⟨k + 1,hlt⟩,by dsimp only; omega,AS.le_of rfl ⟨rfl,rfl,rfl,rfl,trivial⟩ (fun _=>rfl)⟩
theorem smp_ok : FnC Tryz.prog 90 (smS 128 2) := by
 refine FnC.walk 90 (fn:=Tryz.f90) Tryz.func90 rfl (by kernel_rfl) fun d=>?_
 obtain ⟨rows,hty,hl⟩:=d
 change W _ (Ret _ _ (.bool true) []) _ _ ⟨26,[(0, .list 2 rows),(1, .list 2 rows)],[]⟩
 have cap : rows.length ≤ 9223372036854775807:=capT hl
 repeat (first | refine ZS ?_ | refine ZK tm no_specs rfl (by conv=>lhs; simp [cap]) fun _=>?_ | refine ZL tm no_specs rfl (by conv=>lhs; simp [cap]) fun _=>?_)
 refine W.loop rfl (ι:={ k : Nat // k ≤ rows.length }) (fun k=>⟨26,[(0, .list 2 rows),(1, .list 2 rows),(12, .int .i64 rows.length),(13, .int .i64 (k.1 : Nat))],[]⟩) (fun k=>rows.length - k.1) ⟨0,by omega⟩ (AS.le_of rfl ⟨rfl,rfl,rfl,rfl,trivial⟩ (fun _=>rfl)) ?_
 rintro ⟨k,hk⟩
 by_cases hk2 : k = rows.length
 · subst hk2
   repeat (first | refine ZS ?_ | refine ZK tm no_specs rfl (by conv=>lhs; simp [cap]) fun _=>?_ | refine ZL tm no_specs rfl (by conv=>lhs; simp [cap]) fun _=>?_)
   exact Yr
 · have hlt : k < rows.length:=by omega
   obtain ⟨r,hr⟩:=get_lt hlt
   have hm:=List.mem_of_getElem? hr
   obtain ⟨u1,u2,rfl, -⟩:=viewPageRef (hty r hm)
   have q1 : (k : Int) < rows.length:=by omega
   have q2 : ¬ rows.length ≤ k:=by omega
   have hw : IntKind.i64.wrap ((k : Int) + 1) = ((k + 1 : Nat) : Int):=w64 (by omega) (by omega)
   repeat (first | refine ZS ?_ | refine ZK tm no_specs rfl (by conv=>lhs; simp [q1,q2,hr,hw,cap,bne_self']) fun _=>?_ | refine ZL tm no_specs rfl (by conv=>lhs; simp [q1,q2,hr,hw,cap,bne_self']) fun _=>?_)
   exact ⟨⟨k + 1,hlt⟩,by dsimp only; omega,AS.le_of rfl ⟨rfl,rfl,rfl,rfl,trivial⟩ (fun _=>rfl)⟩
theorem sml_ok : FnC Tryz.prog 91 (smS 131 4) := by
 refine FnC.walk 91 (fn:=Tryz.f91) Tryz.func91 rfl (by kernel_rfl) fun d=>?_
 obtain ⟨rows,hty,hl⟩:=d
 change W _ (Ret _ _ (.bool true) []) _ _ ⟨26,[(0, .list 4 rows),(1, .list 4 rows)],[]⟩
 have cap : rows.length ≤ 9223372036854775807:=capT hl
 repeat (first | refine ZS ?_ | refine ZK tm no_specs rfl (by conv=>lhs; simp [cap]) fun _=>?_ | refine ZL tm no_specs rfl (by conv=>lhs; simp [cap]) fun _=>?_)
 refine W.loop rfl (ι:={ k : Nat // k ≤ rows.length }) (fun k=>⟨26,[(0, .list 4 rows),(1, .list 4 rows),(12, .int .i64 rows.length),(13, .int .i64 (k.1 : Nat))],[]⟩) (fun k=>rows.length - k.1) ⟨0,by omega⟩ (AS.le_of rfl ⟨rfl,rfl,rfl,rfl,trivial⟩ (fun _=>rfl)) ?_
 rintro ⟨k,hk⟩
 by_cases hk2 : k = rows.length
 · subst hk2
   repeat (first | refine ZS ?_ | refine ZK tm no_specs rfl (by conv=>lhs; simp [cap]) fun _=>?_ | refine ZL tm no_specs rfl (by conv=>lhs; simp [cap]) fun _=>?_)
   exact Yr
 · have hlt : k < rows.length:=by omega
   obtain ⟨r,hr⟩:=get_lt hlt
   have hm:=List.mem_of_getElem? hr
   obtain ⟨u1,u2,u3,u4,rfl, -⟩:=viewSlot (hty r hm)
   have q1 : (k : Int) < rows.length:=by omega
   have q2 : ¬ rows.length ≤ k:=by omega
   have hw : IntKind.i64.wrap ((k : Int) + 1) = ((k + 1 : Nat) : Int):=w64 (by omega) (by omega)
   repeat (first | refine ZS ?_ | refine ZK tm no_specs rfl (by conv=>lhs; simp [q1,q2,hr,hw,cap,bne_self']) fun _=>?_ | refine ZL tm no_specs rfl (by conv=>lhs; simp [q1,q2,hr,hw,cap,bne_self']) fun _=>?_)
   exact ⟨⟨k + 1,hlt⟩,by dsimp only; omega,AS.le_of rfl ⟨rfl,rfl,rfl,rfl,trivial⟩ (fun _=>rfl)⟩
structure Nms (P : Program) (t : TypeId) where
 rows : List (List AV)
 ty : ∀ r ∈ rows,TyR P 8 t r
 bd : rows.length ≤ 10000
 bs : ∀ r ∈ rows,bdL 10000 r = true
noncomputable def snS : SpecFn := mkS (fun d : Nms Tryz.prog 72 => [.list 3 d.rows, .list 3 d.rows]) fun _ => (.bool true,[])
theorem snS_eq (d : Nms Tryz.prog 72) : snS [.list 3 d.rows, .list 3 d.rows] [] = some (.bool true,[]) :=
 mkS_eq (enc:=fun d : Nms Tryz.prog 72=>[AV.list 3 d.rows, .list 3 d.rows]) (fun x y _=>rfl) d
theorem sna_ok : FnC Tryz.prog 67 snS := by
 refine FnC.walk 67 (fn:=Tryz.f67) Tryz.func67 rfl (by kernel_rfl) fun d=>?_
 obtain ⟨rows,hty,hl,hbs⟩:=d
 change W _ (Ret _ _ (.bool true) []) _ _ ⟨84,[(0, .list 3 rows),(1, .list 3 rows)],[]⟩
 have cap : rows.length ≤ 9223372036854775807:=capT hl
 repeat (first | refine ZS ?_ | refine ZK tm no_specs rfl (by conv=>lhs; simp [cap]) fun _=>?_ | refine ZL tm no_specs rfl (by conv=>lhs; simp [cap]) fun _=>?_)
 refine W.loop rfl (ι:={ k : Nat // k ≤ rows.length }) (fun k=>⟨84,[(0, .list 3 rows),(1, .list 3 rows),(13, .int .i64 rows.length),(14, .int .i64 (k.1 : Nat))],[]⟩) (fun k=>rows.length - k.1) ⟨0,by omega⟩ (AS.le_of rfl ⟨rfl,rfl,rfl,rfl,trivial⟩ (fun _=>rfl)) ?_
 rintro ⟨k,hk⟩
 by_cases hk2 : k = rows.length
 · subst hk2
   repeat (first | refine ZS ?_ | refine ZK tm no_specs rfl (by conv=>lhs; simp [cap]) fun _=>?_ | refine ZL tm no_specs rfl (by conv=>lhs; simp [cap]) fun _=>?_)
   exact Yr
 · have hlt : k < rows.length:=by omega
   obtain ⟨r,hr⟩:=get_lt hlt
   have hm:=List.mem_of_getElem? hr
   obtain ⟨s,n,ids,rfl,hi⟩:=nameRow (hty r hm) (hbs r hm)
   obtain ⟨s',n',ids',e, -,hids⟩:=viewName (hty _ hm)
   simp only [List.cons.injEq,AV.str.injEq,AV.int.injEq,AV.list.injEq,true_and,and_true] at e
   obtain ⟨rfl,rfl,rfl⟩:=e
   have q1 : (k : Int) < rows.length:=by omega
   have q2 : ¬ rows.length ≤ k:=by omega
   have ci : ids.length ≤ 9223372036854775807:=capT hi
   have hw : IntKind.i64.wrap ((k : Int) + 1) = ((k + 1 : Nat) : Int):=w64 (by omega) (by omega)
   repeat (first | refine ZS ?_ | refine ZK tm no_specs rfl (by conv=>lhs; simp [q1,q2,hr,cap,ci,bne_self']) fun _=>?_ | refine ZL tm no_specs rfl (by conv=>lhs; simp [q1,q2,hr,cap,ci,bne_self']) fun _=>?_)
   refine W.loop rfl (ι:={ j : Nat // j ≤ ids.length }) (fun j=>⟨84,[(0, .list 3 rows),(1, .list 3 rows),(5, .int .i64 (k : Nat)),(13, .int .i64 rows.length),(14, .int .i64 (k : Nat)),(61, .int .i64 ids.length),(62, .int .i64 (j.1 : Nat))],[]⟩) (fun j=>ids.length - j.1) ⟨0,by omega⟩ (AS.le_of rfl ⟨rfl,rfl,rfl,rfl,rfl,rfl,rfl,trivial⟩ (fun _=>rfl)) ?_
   rintro ⟨j,hj⟩
   by_cases hj2 : j = ids.length
   · subst hj2
     repeat (first | refine ZS ?_ | refine ZK tm no_specs rfl (by conv=>lhs; simp [cap,ci,hw]) fun _=>?_ | refine ZL tm no_specs rfl (by conv=>lhs; simp [cap,ci,hw]) fun _=>?_)
     exact ⟨⟨k + 1,hlt⟩,by dsimp only; omega,AS.le_of rfl ⟨rfl,rfl,rfl,rfl,trivial⟩ (fun _=>rfl)⟩
   · have hlj : j < ids.length:=by omega
     obtain ⟨u,hu⟩:=get_lt hlj
     have hmu:=List.mem_of_getElem? hu
     obtain ⟨u,rfl, -⟩:=by simpa only [TyR_int Tryz.underlying26] using hids u hmu
     have q3 : (j : Int) < ids.length:=by omega
     have q4 : ¬ ids.length ≤ j:=by omega
     have hv : IntKind.i64.wrap ((j : Int) + 1) = ((j + 1 : Nat) : Int):=w64 (by omega) (by omega)
     repeat (first | refine ZS ?_ | refine ZK tm no_specs rfl (by conv=>lhs; simp [q1,q2,q3,q4,hr,hu,hv,cap,ci,bne_self']) fun _=>?_ | refine ZL tm no_specs rfl (by conv=>lhs; simp [q1,q2,q3,q4,hr,hu,hv,cap,ci,bne_self']) fun _=>?_)
     exact ⟨⟨j + 1,hlj⟩,by dsimp only; omega,AS.le_of rfl ⟨rfl,rfl,rfl,rfl,rfl,rfl,rfl,trivial⟩ (fun _=>rfl)⟩
noncomputable def spr_specs : NL Spec := [(101,⟨1,smS 9 1⟩)]
theorem spr_specs_ok : ∀ p ∈ spr_specs,FnC Tryz.prog p.1 p.2.fn := by
 simp only [spr_specs,List.mem_cons,List.not_mem_nil,or_false]
 rintro p rfl
 exact sms_ok
attribute [local simp] spr_specs
noncomputable def sprS : SpecFn := mkS (fun d : Prg => [.agg d.cells, .agg d.cells]) fun _ => (.bool true,[])
theorem sprS_eq (d : Prg) : sprS [.agg d.cells, .agg d.cells] [] = some (.bool true,[]) :=
 mkS_eq (enc:=fun d : Prg=>[AV.agg d.cells, .agg d.cells]) (fun x y _=>rfl) d
theorem spr_ok : FnC Tryz.prog 89 sprS := by
 refine FnC.walk 89 (fn:=Tryz.f89) Tryz.func89 rfl (by kernel_rfl) fun d=>?_
 obtain ⟨cs,ty,bd⟩:=d
 obtain ⟨x0,x1,x2,rfl,h0,h1, -⟩:=viewProgram ty
 simp only [bdL,bdV,Bool.and_eq_true,decide_eq_true_eq,Bool.and_true] at bd
 have cap : x0.length ≤ 9223372036854775807:=capT bd.1.1
 have c1:=smS_eq 9 1 ⟨x1,h1,bd.2.1⟩
 dsimp only at c1
 change W _ (Ret _ _ (.bool true) []) _ _ ⟨46,[(0, .agg [.list 4 x0, .list 1 x1, .int .i64 x2]),(1, .agg [.list 4 x0, .list 1 x1, .int .i64 x2])],[]⟩
 have hl:=bd.1.1
 clear bd ty h1
 repeat (first | refine ZS ?_ | refine ZK tm spr_specs_ok rfl (by conv=>lhs; simp [cap,c1,bne_self']) fun _=>?_ | refine ZL tm spr_specs_ok rfl (by conv=>lhs; simp [cap,c1,bne_self']) fun _=>?_)
 refine W.loop rfl (ι:={ k : Nat // k ≤ x0.length }) (fun k=>⟨46,[(2, .ptr 48 1 0 0),(3, .ptr 64 1 0 0),(30, .int .i64 x0.length),(31, .int .i64 (k.1 : Nat))],_⟩) (fun k=>x0.length - k.1) ⟨0,by omega⟩ (AS.le_of rfl ⟨rfl,rfl,rfl,rfl,trivial⟩ (fun _=>rfl)) ?_
 rintro ⟨k,hk⟩
 by_cases hk2 : k = x0.length
 · subst hk2
   repeat (first | refine ZS ?_ | refine ZK tm spr_specs_ok rfl (by conv=>lhs; simp [cap]) fun _=>?_ | refine ZL tm spr_specs_ok rfl (by conv=>lhs; simp [cap]) fun _=>?_)
   exact Yr
 · have hlt : k < x0.length:=by omega
   obtain ⟨r,hr⟩:=get_lt hlt
   have hm:=List.mem_of_getElem? hr
   obtain ⟨u1,u2,u3,u4,rfl, -⟩:=viewInstr (h0 r hm)
   have q1 : (k : Int) < x0.length:=by omega
   have q2 : ¬ x0.length ≤ k:=by omega
   have hw : IntKind.i64.wrap ((k : Int) + 1) = ((k + 1 : Nat) : Int):=w64 (by omega) (by omega)
   repeat (first | refine ZS ?_ | refine ZK tm spr_specs_ok rfl (by conv=>lhs; simp [q1,q2,hr,hw,cap,bne_self']) fun _=>?_ | refine ZL tm spr_specs_ok rfl (by conv=>lhs; simp [q1,q2,hr,hw,cap,bne_self']) fun _=>?_)
   exact ⟨⟨k + 1,hlt⟩,by dsimp only; omega,AS.le_of rfl ⟨rfl,rfl,rfl,rfl,trivial⟩ (fun _=>rfl)⟩
end
section
theorem bytes_of {rows : List (List AV)} : (∀ r ∈ rows,TyR Tryz.prog 8 5 r) → ∃ ns,bytesA rows = some ns := by
 induction rows with
 | nil=>exact fun _=>⟨[],rfl⟩
 | cons r rs ih =>
   intro h
   obtain ⟨ns,hn⟩:=ih fun r hr=>h r (List.mem_cons_of_mem _ hr)
   obtain ⟨u,rfl, -⟩:=by simpa only [TyR_int Tryz.underlying5] using h r (by simp)
   exact ⟨u :: ns,by simp only [bytesA,hn,Option.map_some]⟩
theorem eqCpuS (a b c d e f g h i : Int) : eqV Tryz.prog 9 34 (.agg [.int .i64 a, .int .i64 b, .int .i64 c, .int .i64 d, .int .i64 e, .int .i64 f, .int .i64 g, .int .i64 h, .int .i64 i]) (.agg [.int .i64 a, .int .i64 b, .int .i64 c, .int .i64 d, .int .i64 e, .int .i64 f, .int .i64 g, .int .i64 h, .int .i64 i]) = some true := by
 simp [eqCpu]
theorem eqEndsS (a b : Int) : eqV Tryz.prog 9 41 (.agg [.int .i64 a, .int .i64 b]) (.agg [.int .i64 a, .int .i64 b]) = some true := by
 simp [eqEnds]
attribute [local simp] instA binOpA eqlA tgC tgE eqCpuS eqEndsS
noncomputable def smp_specs : NL Spec := [(66,⟨1,smS 26 1⟩),(89,⟨1,sprS⟩),(90,⟨1,smS 128 2⟩),(91,⟨1,smS 131 4⟩)]
theorem smp_specs_ok : ∀ p ∈ smp_specs,FnC Tryz.prog p.1 p.2.fn := by
 simp only [smp_specs,List.mem_cons,List.not_mem_nil,or_false]
 rintro p (rfl | rfl | rfl | rfl)
 · exact smi_ok
 · exact spr_ok
 · exact smp_ok
 · exact sml_ok
attribute [local simp] smp_specs
noncomputable def spcS : SpecFn := mkS (fun d : Prc => [.agg d.cells, .agg d.cells]) fun _ => (.bool true,[])
theorem spcS_eq (d : Prc) : spcS [.agg d.cells, .agg d.cells] [] = some (.bool true,[]) :=
 mkS_eq (enc:=fun d : Prc=>[AV.agg d.cells, .agg d.cells]) (fun x y _=>rfl) d
theorem spc_ok : FnC Tryz.prog 64 spcS := by
 refine FnC.walk 64 (fn:=Tryz.f64) Tryz.func64 rfl (by kernel_rfl) fun d=>?_
 obtain ⟨cs,ty,bd⟩:=d
 obtain ⟨p0,p1,p2,p3,p4,p5,p6,p7,p8,p9,rfl, -, -,h2,h3,h4,h5,h6, -, -, -⟩:=viewProcess ty
 have bp : bdL 10000 p3 = true:=by simp only [bdL,bdV,bdL_append,Bool.and_eq_true,Bool.true_and,true_and] at bd; exact bd.2.1
 have cP:=sprS_eq ⟨p3,h3,bp⟩
 obtain ⟨q0,q1,q2,rfl, -, -, -⟩:=viewProgram h3
 obtain ⟨z0,z1,z2,z3,z4,z5,z6,z7,z8,rfl, -⟩:=viewCPU h4
 simp only [List.cons_append,List.nil_append,bdL,bdV,Bool.and_eq_true,decide_eq_true_eq,Bool.and_true,Bool.true_and,true_and] at bd
 have c2:=smS_eq 26 1 ⟨p2,h2,by simp [bd]⟩
 have c5:=smS_eq 128 2 ⟨p5,h5,by simp [bd]⟩
 have c6:=smS_eq 131 4 ⟨p6,h6,by simp [bd]⟩
 dsimp only at cP c2 c5 c6
 change W _ (Ret _ _ (.bool true) []) _ _ ⟨73,[(0, .agg [.int .i64 p0, .int .u64 p1, .list 1 p2, .list 4 q0, .list 1 q1, .int .i64 q2, .int .i64 z0, .int .i64 z1, .int .i64 z2, .int .i64 z3, .int .i64 z4, .int .i64 z5, .int .i64 z6, .int .i64 z7, .int .i64 z8, .list 2 p5, .list 4 p6, .int .i64 p7, .int .i64 p8, .int .i64 p9]),(1, .agg [.int .i64 p0, .int .u64 p1, .list 1 p2, .list 4 q0, .list 1 q1, .int .i64 q2, .int .i64 z0, .int .i64 z1, .int .i64 z2, .int .i64 z3, .int .i64 z4, .int .i64 z5, .int .i64 z6, .int .i64 z7, .int .i64 z8, .list 2 p5, .list 4 p6, .int .i64 p7, .int .i64 p8, .int .i64 p9])],[]⟩
 clear bd ty h2 h3 h4 h5 h6 bp
 repeat (first | refine ZS ?_ | refine ZK tm smp_specs_ok rfl (by conv=>lhs; simp [cP,c2,c5,c6]) fun _=>?_ | refine ZL tm smp_specs_ok rfl (by conv=>lhs; simp [cP,c2,c5,c6]) fun _=>?_)
 exact Yr
noncomputable def sob_specs : NL Spec := [(66,⟨1,smS 26 1⟩),(64,⟨1,spcS⟩),(65,⟨1,smS 2 1⟩),(67,⟨1,snS⟩)]
theorem sob_specs_ok : ∀ p ∈ sob_specs,FnC Tryz.prog p.1 p.2.fn := by
 simp only [sob_specs,List.mem_cons,List.not_mem_nil,or_false]
 rintro p (rfl | rfl | rfl | rfl)
 · exact smi_ok
 · exact spc_ok
 · exact smw_ok
 · exact sna_ok
attribute [local simp] sob_specs
noncomputable def sobS : SpecFn := mkS (fun d : Ob => [.agg d.cells, .agg d.cells]) fun _ => (.bool true,[])
theorem sobS_eq (d : Ob) : sobS [.agg d.cells, .agg d.cells] [] = some (.bool true,[]) :=
 mkS_eq (enc:=fun d : Ob=>[AV.agg d.cells, .agg d.cells]) (fun x y _=>rfl) d
theorem sob_ok : FnC Tryz.prog 37 sobS := by
 refine FnC.walk 37 (fn:=Tryz.f37) Tryz.func37 rfl (by kernel_rfl) fun d=>?_
 obtain ⟨cs,ty,bd⟩:=d
 obtain ⟨x0,x1,x2,xp,x4,x5,x6,x7,x8,x9,x10,x11,x12,x13,x14,x15,x16,rfl, -, -, -,hp,h4,h5, -, -, -, -,h10,h11,h12, -, -, -,h16⟩:=viewObject ty
 have bp : bdL 10000 xp = true:=by simp only [bdL,bdV,bdL_append,Bool.and_eq_true,Bool.true_and,true_and] at bd; exact bd.1
 have cP:=spcS_eq ⟨xp,hp,bp⟩
 obtain ⟨p0,p1,p2,p3,p4,p5,p6,p7,p8,p9,rfl, -, -, -,h3,hc, -, -, -, -, -⟩:=viewProcess hp
 obtain ⟨q0,q1,q2,rfl, -, -, -⟩:=viewProgram h3
 obtain ⟨z0,z1,z2,z3,z4,z5,z6,z7,z8,rfl, -⟩:=viewCPU hc
 simp only [List.cons_append,List.nil_append,bdL,bdV,Bool.and_eq_true,decide_eq_true_eq,Bool.and_true,Bool.true_and,true_and] at bd
 have c4:=smS_eq 2 1 ⟨x4,h4,by simp [bd]⟩
 have c10:=smS_eq 26 1 ⟨x10,h10,by simp [bd]⟩
 have c16:=snS_eq ⟨x16,h16,by simp [bd],fun r hr=>bdRows_mem (by simp [bd]) hr⟩
 obtain ⟨n5,b5⟩:=bytes_of h5
 obtain ⟨n11,b11⟩:=bytes_of h11
 obtain ⟨n12,b12⟩:=bytes_of h12
 dsimp only [List.cons_append,List.nil_append] at cP c4 c10 c16
 change W _ (Ret _ _ (.bool true) []) _ _ ⟨125,[(0, .agg [.int .u64 x0, .int .i64 x1, .int .i64 x2, .int .i64 p0, .int .u64 p1, .list 1 p2, .list 4 q0, .list 1 q1, .int .i64 q2, .int .i64 z0, .int .i64 z1, .int .i64 z2, .int .i64 z3, .int .i64 z4, .int .i64 z5, .int .i64 z6, .int .i64 z7, .int .i64 z8, .list 2 p5, .list 4 p6, .int .i64 p7, .int .i64 p8, .int .i64 p9, .list 1 x4, .list 1 x5, .int .i64 x6, .int .u64 x7, .int .i64 x8, .int .i64 x9, .list 1 x10, .list 1 x11, .list 1 x12, .int .i64 x13, .int .i64 x14, .int .i64 x15, .list 3 x16]),(1, .agg [.int .u64 x0, .int .i64 x1, .int .i64 x2, .int .i64 p0, .int .u64 p1, .list 1 p2, .list 4 q0, .list 1 q1, .int .i64 q2, .int .i64 z0, .int .i64 z1, .int .i64 z2, .int .i64 z3, .int .i64 z4, .int .i64 z5, .int .i64 z6, .int .i64 z7, .int .i64 z8, .list 2 p5, .list 4 p6, .int .i64 p7, .int .i64 p8, .int .i64 p9, .list 1 x4, .list 1 x5, .int .i64 x6, .int .u64 x7, .int .i64 x8, .int .i64 x9, .list 1 x10, .list 1 x11, .list 1 x12, .int .i64 x13, .int .i64 x14, .int .i64 x15, .list 3 x16])],[]⟩
 clear bd ty hp h3 hc h4 h5 h10 h11 h12 h16 bp
 repeat (first | refine ZS ?_ | refine ZK tm sob_specs_ok rfl (by conv=>lhs; simp [cP,c4,c10,c16,b5,b11,b12]) fun _=>?_ | refine ZL tm sob_specs_ok rfl (by conv=>lhs; simp [cP,c4,c10,c16,b5,b11,b12]) fun _=>?_)
 exact Yr
end
section
theorem obLeafs : (leafs Tryz.prog 44).length = 36 := by kernel_rfl
@[simp] theorem ob_len (o : Ob) : o.cells.length = 36 := o.len'.trans obLeafs
@[simp] theorem ob_drop (o : Ob) (l : List AV) (n : Nat) (h : 36 ≤ n) : (o.cells ++ l).drop n = l.drop (n - 36) := by
 rw [List.drop_append,ob_len,List.drop_eq_nil_of_le (by rw [ob_len]; omega),List.nil_append]
@[simp] theorem ob_take (o : Ob) (l : List AV) (n : Nat) (h : 36 ≤ n) : (o.cells ++ l).take n = o.cells ++ l.take (n - 36) := by
 rw [List.take_append,ob_len,List.take_of_length_le (by rw [ob_len]; omega)]
@[simp] theorem ob_take0 (o : Ob) : o.cells.take 36 = o.cells := List.take_of_length_le (by rw [ob_len]; omega)
@[simp] theorem ob_get (o : Ob) (l : List AV) (n : Nat) (h : 36 ≤ n) : (o.cells ++ l)[n]? = l[n - 36]? := by
 rw [List.getElem?_append_right (by rw [ob_len]; omega),ob_len]
structure Tok where
 id : Int
 mode : Int
 obj : Ob
 want : Int
 pin : Bool
 due : Bool
@[simp] def Tok.c (t : Tok) : List AV := .int .u64 t.id :: .int .i64 t.mode :: (t.obj.cells ++ [.int .i64 t.want, .bool t.pin, .bool t.due])
theorem Tok.c_inj {s t : Tok} (h : s.c = t.c) : s = t := by
 obtain ⟨a,b,o,c,d,e⟩:=s
 obtain ⟨a',b',o',c',d',e'⟩:=t
 simp only [Tok.c,List.cons.injEq,AV.int.injEq,true_and] at h
 obtain ⟨rfl,rfl,h⟩:=h
 obtain ⟨h1,h2⟩:=List.append_inj h (by simp)
 simp only [List.cons.injEq,AV.int.injEq,AV.bool.injEq,true_and,and_true] at h2
 obtain ⟨rfl,rfl,rfl⟩:=h2
 rw [Td.ext h1]
theorem rows_inj {s t : List Tok} (h : s.map Tok.c = t.map Tok.c) : s = t := by
 induction s generalizing t with
 | nil=>cases t with
   | nil=>rfl
   | cons=>simp at h
 | cons x r ih =>
   cases t with
   | nil=>simp at h
   | cons y q =>
     simp only [List.map_cons,List.cons.injEq] at h
     rw [Tok.c_inj h.1,ih h.2]
structure Tks where
 node : Int
 toks : List Tok
 bd : toks.length ≤ 9000
def Tks.v (d : Tks) : AV := .agg [.int .i64 d.node, .list 41 (d.toks.map Tok.c)]
theorem Tks.v_inj {s t : Tks} (h : s.v = t.v) : s = t := by
 obtain ⟨a,l,b⟩:=s
 obtain ⟨a',l',b'⟩:=t
 simp only [Tks.v,AV.agg.injEq,List.cons.injEq,AV.int.injEq,AV.list.injEq,true_and,and_true] at h
 obtain ⟨rfl,h⟩:=h
 cases rows_inj h
 rfl
def tyFsP (q : TypeId → List AV → Option (List AV)) : List TypeId → List AV → Option (List AV)
 | [],xs=>some xs
 | t :: r,xs=>(q t xs).bind (tyFsP q r)
def tyB : List AV → Option (List AV)
 | .bool _ :: r=>some r
 | _=>none
def tyI (k : IntKind) : List AV → Option (List AV)
 | .int k' m :: r=>if k = k' ∧ (Lit.int k m).wf = true then some r else none
 | _=>none
def tyS (n : Nat) : List AV → Option (List AV)
 | .list sz [] :: r=>if sz = n then some r else none
 | _=>none
def tyP (P : Program) : Nat → TypeId → List AV → Option (List AV)
 | 0,_,_=>none
 | n + 1,t,xs=>match P.underlying t with
   | some .bool=>tyB xs
   | some (.int k)=>tyI k xs
   | some (.slice e)=>tyS (P.cellsOf e) xs
   | some (.struct fs)=>tyFsP (tyP P n) (fs.toList.map (·.type)) xs
   | some (.array m e)=>tyFsP (tyP P n) (List.replicate m e) xs
   | _=>none
theorem tyFsP_ok {q : TypeId → List AV → Option (List AV)} {Q : TypeId → List AV → Prop} (h : ∀ t xs r,q t xs = some r → ∃ a,xs = a ++ r ∧ Q t a) : ∀ (ts : List TypeId) (xs r : List AV),tyFsP q ts xs = some r → ∃ a,xs = a ++ r ∧ TyFs Q ts a
 | [],xs,r,e=>by
   simp only [tyFsP,Option.some.injEq] at e
   subst e
   exact ⟨[],rfl,rfl⟩
 | t :: ts,xs,r,e=>by
   simp only [tyFsP] at e
   obtain ⟨m,e1,e2⟩:=Option.bind_eq_some_iff.1 e
   obtain ⟨a,rfl,ha⟩:=h _ _ _ e1
   obtain ⟨b,rfl,hb⟩:=tyFsP_ok h ts m r e2
   exact ⟨a ++ b,by rw [List.append_assoc],a,b,rfl,ha,hb⟩
theorem tyP_ok {P : Program} : ∀ (n : Nat) (t : TypeId) (xs r : List AV),tyP P n t xs = some r → ∃ a,xs = a ++ r ∧ TyR P n t a
 | 0,t,xs,r,h=>by simp [tyP] at h
 | n + 1,t,xs,r,h=>by
   rw [tyP] at h
   split at h
   · rename_i hu
     unfold tyB at h
     split at h
     · rename_i b r'
       cases h
       exact ⟨[.bool b],rfl,by simp only [TyR,hu]; exact ⟨b,rfl⟩⟩
     · cases h
   · rename_i k hu
     unfold tyI at h
     split at h
     · rename_i k' m r'
       split at h
       · rename_i hk
         obtain ⟨rfl,hw⟩:=hk
         cases h
         exact ⟨[.int k m],rfl,by simp only [TyR,hu]; exact ⟨m,rfl,hw⟩⟩
       · cases h
     · cases h
   · rename_i e hu
     unfold tyS at h
     split at h
     · rename_i sz r'
       split at h
       · rename_i hk
         subst hk
         cases h
         refine ⟨[.list _ []],rfl, ?_⟩
         simp only [TyR,hu]
         exact ⟨[],rfl,by simp [maxLen],by simp⟩
       · cases h
     · cases h
   · rename_i fs hu
     obtain ⟨a,e1,e2⟩:=tyFsP_ok (Q:=TyR P n) (fun t xs r h=>tyP_ok n t xs r h) _ _ _ h
     refine ⟨a,e1, ?_⟩
     simp only [TyR,hu]
     exact e2
   · rename_i m e hu
     obtain ⟨a,e1,e2⟩:=tyFsP_ok (Q:=TyR P n) (fun t xs r h=>tyP_ok n t xs r h) _ _ _ h
     refine ⟨a,e1, ?_⟩
     simp only [TyR,hu]
     exact e2
   · cases h
def zN : List AV := [.int .u64 0, .int .i64 0, .int .i64 0, .int .i64 0, .int .u64 0, .list 1 [], .list 4 [], .list 1 [], .int .i64 0, .int .i64 0, .int .i64 0, .int .i64 0, .int .i64 0, .int .i64 0, .int .i64 0, .int .i64 0, .int .i64 0, .int .i64 0, .list 2 [], .list 4 [], .int .i64 0, .int .i64 0, .int .i64 0, .list 1 [], .list 1 [], .int .i64 0, .int .u64 0, .int .i64 0, .int .i64 0, .list 1 [], .list 1 [], .list 1 [], .int .i64 0, .int .i64 0, .int .i64 0, .list 3 []]
theorem zN_eq : nrmL Tryz.prog (leafs Tryz.prog 44) zO = zN := by kernel_rfl
theorem zN_p : tyP Tryz.prog 8 44 zN = some [] := by kernel_rfl
theorem zObTy : TyR Tryz.prog 8 44 zN := by
 obtain ⟨a,h1,h2⟩:=tyP_ok 8 _ _ _ zN_p
 rw [List.append_nil] at h1
 rw [h1]
 exact h2
theorem zN_b : bdL 10000 zN = true := by kernel_rfl
def zOb : Ob := ⟨zN,zObTy,zN_b⟩
def fnd (id : Int) : List Tok → Option Tok
 | []=>none
 | t :: r=>if t.id = id then some t else fnd id r
attribute [local simp] instA
end
section
def putL (t : Tok) : Bool → List Tok → List Tok
 | done,[]=>if done = true then [] else [t]
 | done,r :: rs=>(if done = false ∧ t.id ≤ r.id then [t] else []) ++ ((if r.id = t.id then [] else [r]) ++ putL t (done || decide (t.id ≤ r.id)) rs)
def Tok.gone (t : Tok) : Bool := t.mode == 0 && t.want == 0
def put (t : Tok) (l : List Tok) : List Tok := putL t t.gone l
attribute [local simp] instA
theorem m1 : (1 : Nat) ≤ maxLen := by decide
theorem m2 : (2 : Nat) ≤ maxLen := by decide
theorem first_all {n : Nat} {l : List (List AV)} (h : l.length = n) : firstRows n l = l := by
 subst h
 simp [firstRows]
end
section
def okM (m : Int) : Bool := m == 1 || m == 2
def okN (m : Int) : Bool := decide (0 ≤ m) && decide (m ≤ 127)
noncomputable def boS (f : Int → Bool) : SpecFn := mkS (fun d : Int => [.int .i64 d]) fun d => (.bool (f d),[])
theorem boS_eq (f : Int → Bool) (d : Int) : boS f [.int .i64 d] [] = some (.bool (f d),[]) :=
 mkS_eq (enc:=fun d : Int=>[AV.int .i64 d]) (fun x y h=>by
   simp only [List.cons.injEq,AV.int.injEq,true_and,and_true] at h
   rw [h]) d
attribute [local simp] instA
theorem ob_view (o : Ob) : ∃ i r,o.cells = .int .u64 i :: r := by
 obtain ⟨x0,x1,x2,xp,x4,x5,x6,x7,x8,x9,x10,x11,x12,x13,x14,x15,x16,h, -⟩:=viewObject o.ty
 exact ⟨x0,_,h⟩
noncomputable def oid (o : Ob) : Int := (ob_view o).choose
theorem oid_eq (o : Ob) : ∃ r,o.cells = .int .u64 (oid o) :: r := (ob_view o).choose_spec
def hdA : List AV → AP AV
 | x :: _ => .ret x
 | [] => .fail
theorem mkv_hd (P : Program) (t : TypeId) (cells : List AV) : mkv P t cells = match aggT P t with
 | some true=>match szOf P t with
   | some s=>if s ≤ cells.length then .ret (.agg (cells.take s)) else .fail
   | none => .fail
 | some false=>hdA cells
 | none => .fail:=by
 unfold mkv hdA
 rfl
@[local simp] theorem hdA_cons (x : AV) (r : List AV) : hdA (x :: r) = .ret x := rfl
@[local simp] theorem hdA_ob (o : Ob) (l : List AV) : hdA (o.cells ++ l) = .ret (.int .u64 (oid o)) := by
 obtain ⟨r,h⟩:=oid_eq o
 rw [h]
 rfl
@[local simp] theorem hdA_ob' (o : Ob) : hdA o.cells = .ret (.int .u64 (oid o)) := by
 obtain ⟨r,h⟩:=oid_eq o
 rw [h]
 rfl
attribute [-simp] mkv
attribute [local simp] mkv_hd
noncomputable def fineR (t : Tok) : Bool := t.id != 0 && ((t.mode == 0 || okM t.mode) && ((t.want == 0 || (okM t.want && decide (t.mode < t.want))) && ((zO? t.obj || (oid t.obj == t.id && t.mode != 0)) && ((!t.pin || t.mode != 0) && ((!t.due || t.pin) && (t.mode != 0 || t.want != 0))))))
end
section
attribute [local simp] instA
attribute [-simp] mkv
attribute [local simp] mkv_hd hdA_cons hdA_ob hdA_ob'
end
section
attribute [local simp] instA
noncomputable def good (l : List Tok) (j : Nat) : Bool := match l[j]? with
 | none=>true
 | some t=>fineR t && match j with
   | 0=>true
   | i + 1=>match l[i]? with
     | some s=>decide (s.id < t.id)
     | none=>true
noncomputable def valid (nd : Int) (l : List Tok) : Bool := (List.range l.length).all (good l) && okN nd
end
section
attribute [local simp] instA
attribute [-simp] mkv
attribute [local simp] mkv_hd hdA_cons hdA_ob hdA_ob'
end
section
attribute [local simp] instA binOpA
attribute [-simp] mkv
attribute [local simp] mkv_hd hdA_cons hdA_ob hdA_ob'
end
section
attribute [local simp] instA
attribute [-simp] mkv
attribute [local simp] mkv_hd hdA_cons hdA_ob hdA_ob'
structure Msg where
 fr : Int
 to : Int
 kind : Int
 id : Int
 mode : Int
 obj : Ob
 a : Int
 b : Int
 c : Int
 e : Int
@[simp] def Msg.v (m : Msg) : List AV := .int .i64 m.fr :: .int .i64 m.to :: .int .i64 m.kind :: .int .u64 m.id :: .int .i64 m.mode :: (m.obj.cells ++ [.int .u64 m.a, .int .i64 m.b, .int .u64 m.c, .int .i64 m.e])
theorem msgLeafs : leafs Tryz.prog 46 = 3 :: 3 :: 3 :: 26 :: 3 :: (leafs Tryz.prog 44 ++ [26,2,26,3]) := by rw [lf46,lf44]; rfl
theorem msg_nrm (m : Msg) : nrmL Tryz.prog (leafs Tryz.prog 46) m.v = m.v := by
 rw [msgLeafs]
 simp only [Msg.v,nrmL]
 rw [nrmL_append _ _ _ _ m.obj.len'.symm,m.obj.nrmL]
 simp [nrmL,nrmV]
theorem msg_nrm0 (f t k i m : Int) : nrmL Tryz.prog (leafs Tryz.prog 46) (.int .i64 f :: .int .i64 t :: .int .i64 k :: .int .u64 i :: .int .i64 m :: (zO ++ [.int .u64 0, .int .i64 0, .int .u64 0, .int .i64 0])) = (⟨f,t,k,i,m,zOb,0,0,0,0⟩ : Msg).v := by
 rw [msgLeafs]
 simp only [Msg.v,nrmL]
 rw [nrmL_append _ _ _ _ (by rw [obLeafs]; rfl),zN_eq]
 simp [nrmL,nrmV,zOb]
end
section
attribute [local simp] slice3A slice3C instA
attribute [local simp] instA
attribute [-simp] mkv
attribute [local simp] mkv_hd hdA_cons hdA_ob hdA_ob'
end
section
attribute [local simp] instA
attribute [-simp] mkv
attribute [local simp] mkv_hd hdA_cons hdA_ob hdA_ob'
end
section
attribute [local simp] instA
attribute [-simp] mkv
attribute [local simp] mkv_hd hdA_cons hdA_ob hdA_ob'
noncomputable def ls_specs : NL Spec := [(37,⟨1,sobS⟩)]
attribute [local simp] ls_specs
end
section
def byte (b : UInt8) : List AV := [.int .u8 b.toNat]
theorem byte_inj (a b : UInt8) (h : byte a = byte b) : a = b := by
 simp only [byte,List.cons.injEq,AV.int.injEq,true_and,and_true] at h
 exact UInt8.toNat_inj.1 (by omega)
def diceB (l : List UInt8) : ABlk := { gen := 0,kind := 2,elem := 78,size := 1,rows := [[.list 1 (l.map byte)]] }
theorem diceB_inj {a b : List UInt8} (h : diceB a = diceB b) : a = b := by
 simp only [diceB,ABlk.mk.injEq,List.cons.injEq,AV.list.injEq,true_and,and_true] at h
 exact map_inj byte_inj h
def dn (l : List UInt8) (n : Int) : Int := match l with
 | []=>0
 | b :: _=>if n ≤ 1 then 0 else (b.toNat : Int).tmod n
def dl (l : List UInt8) (n : Int) : List UInt8 := match l with
 | []=>[]
 | b :: r=>if n ≤ 1 then b :: r else r
theorem dn_nonneg (l : List UInt8) (n : Int) : 0 ≤ dn l n := by
 unfold dn
 split
 · omega
 · split
   · omega
   · exact Int.tmod_nonneg _ (by omega)
theorem dn_lt (l : List UInt8) {n : Int} (h : 0 < n) : dn l n < n := by
 unfold dn
 split
 · exact h
 · split
   · omega
   · exact Int.tmod_lt_of_pos _ h
def encD (x : List UInt8 × Int) : List AV × List ABlk := ([.ptr 0 0 0 0, .int .i64 x.2],[diceB x.1])
noncomputable def diceS : SpecFn := mkS2 encD fun x => (.int .i64 (dn x.1 x.2),[diceB (dl x.1 x.2)])
theorem diceS_eq (l : List UInt8) (n : Int) : diceS [.ptr 0 0 0 0, .int .i64 n] [diceB l] = some (.int .i64 (dn l n),[diceB (dl l n)]) :=
 mkS2_eq (enc:=encD) (fun x y h=>by
   simp only [encD,Prod.mk.injEq,List.cons.injEq,AV.int.injEq,true_and,and_true] at h
   rw [Prod.ext (diceB_inj h.2) h.1]) (l,n)
attribute [local simp] convertA sliceArrA sliceA bndA nilCheckA
theorem dice_ok : FnC Tryz.prog 8 diceS := by
 refine FnC.walkB 8 (fn:=Tryz.f8) Tryz.func8 rfl (by kernel_rfl) (fun x b hb=>by simp [encD] at hb; rw [hb]; rfl) fun x=>?_
 obtain ⟨l,n⟩:=x
 change W _ (RetB _ _ 1 _ _) _ _ ⟨34,[(0, .ptr 0 0 0 0),(1, .int .i64 n)],[(0,diceB l)]⟩
 cases l with
 | nil =>
   repeat (first | refine ZS ?_ | refine ZK tm no_specs rfl (by conv=>lhs; simp [diceB]) fun _=>?_ | refine ZL tm no_specs rfl (by conv=>lhs; simp [diceB]) fun _=>?_)
   simp only [dn,dl,diceB,List.map_nil]
   first | exact retE2_ok false (by conv => lhs; simp [retE2, frqT, frqV, frqVs, frqL, frq1, reachE, blkRefs, outE, nodupE, firstE, seqO, expB2, expF, refsB, refsL, AV.refs, AV.ren, renL, renB, List.range, List.range.loop, resVs, resV, pack]) | fail "no return here"
 | cons b r =>
   have hne : (((r.length : Nat) : Int) + 1 == 0) = false:=by simp; omega
   by_cases h : n ≤ 1
   · repeat (first | refine ZS ?_ | refine ZK tm no_specs rfl (by conv=>lhs; simp [diceB,h,hne]) fun _=>?_ | refine ZL tm no_specs rfl (by conv=>lhs; simp [diceB,h,hne]) fun _=>?_)
     simp only [dn,dl,diceB,if_pos h,List.map_cons]
     first | exact retE2_ok false (by conv => lhs; simp [retE2, frqT, frqV, frqVs, frqL, frq1, reachE, blkRefs, outE, nodupE, firstE, seqO, expB2, expF, refsB, refsL, AV.refs, AV.ren, renL, renB, List.range, List.range.loop, resVs, resV, pack]) | fail "no return here"
   · have wb : IntKind.i64.wrap (b.toNat : Int) = b.toNat:=w64 (by omega) (by have:=b.toNat_lt; omega)
     have h0 : ¬ n = 0:=by omega
     have ht : List.take r.length (r.map byte) = r.map byte:=List.take_of_length_le (by simp)
     repeat (first | refine ZS ?_ | refine ZK tm no_specs rfl (by conv=>lhs; simp [diceB,h,hne,byte,wb,h0,ht]) fun _=>?_ | refine ZL tm no_specs rfl (by conv=>lhs; simp [diceB,h,hne,byte,wb,h0,ht]) fun _=>?_)
     simp only [dn,dl,diceB,if_neg h,List.map_cons]
     first | exact retE2_ok false (by conv => lhs; simp [retE2, frqT, frqV, frqVs, frqL, frq1, reachE, blkRefs, outE, nodupE, firstE, seqO, expB2, expF, refsB, refsL, AV.refs, AV.ren, renL, renB, List.range, List.range.loop, resVs, resV, pack]) | fail "no return here"
attribute [local simp] sliceArrA sliceA bndA mmA placesA
def encNw (l : List UInt8) : List AV × List ABlk := ([.list 1 (l.map byte)],[])
theorem encNw_inj : ∀ x y : List UInt8,encNw x = encNw y → x = y := fun x y h => by
 simp only [encNw,Prod.mk.injEq,List.cons.injEq,AV.list.injEq,true_and,and_true] at h
 exact map_inj byte_inj h
noncomputable def newS : SpecFn := mkS2 encNw fun l => (.ptr 0 0 0 0,[diceB (l.take 400)])
theorem newS_eq (l : List UInt8) : newS [.list 1 (l.map byte)] [] = some (.ptr 0 0 0 0,[diceB (l.take 400)]) := mkS2_eq (enc := encNw) (fun x y h => by rw [encNw_inj x y h]) l
theorem new_ok : FnC Tryz.prog 24 newS := by
 refine FnC.walkB 24 (fn:=Tryz.f24) Tryz.func24 rfl (by kernel_rfl) (fun x b hb=>by simp [encNw] at hb) fun l=>?_
 change W _ (RetB _ _ 0 _ _) _ _ ⟨10,[(0, .list 1 (l.map byte))],[]⟩
 by_cases h : (400 : Int) < l.length
 · have h2 : 400 ≤ l.length:=by omega
   repeat (first | refine ZS ?_ | refine ZK tm no_specs rfl (by conv=>lhs; simp [h,h2]) fun _=>?_ | refine ZL tm no_specs rfl (by conv=>lhs; simp [h,h2]) fun _=>?_)
   simp only [diceB,List.map_take]
   first | exact retE2_ok false (by conv => lhs; simp [retE2, frqT, frqV, frqVs, frqL, frq1, reachE, blkRefs, outE, nodupE, firstE, seqO, expB2, expF, refsB, refsL, AV.refs, AV.ren, renL, renB, List.range, List.range.loop, resVs, resV, pack]) | fail "no return here"
 · have h2 : l.length ≤ 400:=by omega
   have h3 : List.take l.length (l.map byte) = l.map byte:=List.take_of_length_le (by simp)
   repeat (first | refine ZS ?_ | refine ZK tm no_specs rfl (by conv=>lhs; simp [h,h3]) fun _=>?_ | refine ZL tm no_specs rfl (by conv=>lhs; simp [h,h3]) fun _=>?_)
   simp only [diceB,List.take_of_length_le h2]
   first | exact retE2_ok false (by conv => lhs; simp [retE2, frqT, frqV, frqVs, frqL, frq1, reachE, blkRefs, outE, nodupE, firstE, seqO, expB2, expF, refsB, refsL, AV.refs, AV.ren, renL, renB, List.range, List.range.loop, resVs, resV, pack]) | fail "no return here"
end
section
attribute [local simp] instA binOpA
def mk3 (a b c : Int) : Int := IntKind.u64.wrap ↑((IntKind.u64.wrap ↑((IntKind.u64.wrap (IntKind.u64.wrap a * 2 ^ min 56 IntKind.u64.bits) % 2 ^ IntKind.u64.bits).toNat ||| (IntKind.u64.wrap (IntKind.u64.wrap b * 2 ^ min 40 IntKind.u64.bits) % 2 ^ IntKind.u64.bits).toNat) % 2 ^ IntKind.u64.bits).toNat ||| (IntKind.u64.wrap c % 2 ^ IntKind.u64.bits).toNat)
structure Idp where
 a : Int
 b : Int
 c : Int
 h1 : 0 ≤ a
 h2 : a ≤ 127
 h3 : 0 ≤ b
 h4 : b ≤ 65535
 h5 : 1 ≤ c
 h6 : c ≤ 1099511627775
noncomputable def mk3S : SpecFn := mkS (fun d : Idp => [.int .i64 d.a, .int .i64 d.b, .int .i64 d.c]) fun d => (.tup [.int .u64 (mk3 d.a d.b d.c), .int .i64 0],[])
theorem mk3S_eq (d : Idp) : mk3S [.int .i64 d.a, .int .i64 d.b, .int .i64 d.c] [] = some (.tup [.int .u64 (mk3 d.a d.b d.c), .int .i64 0],[]) :=
 mkS_eq (enc:=fun d : Idp=>[AV.int .i64 d.a, .int .i64 d.b, .int .i64 d.c]) (fun x y h=>by
   simp only [List.cons.injEq,AV.int.injEq,true_and,and_true] at h
   obtain ⟨h1,h2,h3⟩:=h
   rw [h1,h2,h3]) d
theorem mk3_ok : FnC Tryz.prog 44 mk3S := by
 refine FnC.walk 44 (fn:=Tryz.f44) Tryz.func44 rfl (by kernel_rfl) fun d=>?_
 obtain ⟨a,b,c,h1,h2,h3,h4,h5,h6⟩:=d
 have n1 : ¬ a < 0:=by omega
 have n2 : ¬ 127 < a:=by omega
 have n3 : ¬ b < 0:=by omega
 have n4 : ¬ 65535 < b:=by omega
 have n5 : ¬ c < 1:=by omega
 have n6 : ¬ 1099511627775 < c:=by omega
 change W _ (Ret _ _ (.tup [.int .u64 (mk3 a b c), .int .i64 0]) []) _ _ ⟨40,[(0, .int .i64 a),(1, .int .i64 b),(2, .int .i64 c)],[]⟩
 repeat (first | refine ZS ?_ | refine ZK tm no_specs rfl (by conv=>lhs; simp [n1,n2,n3,n4,n5,n6]) fun _=>?_ | refine ZL tm no_specs rfl (by conv=>lhs; simp [n1,n2,n3,n4,n5,n6]) fun _=>?_)
 simp only [mk3]
 exact Yr
def d1 (l : List UInt8) : List UInt8 := dl l 3
def d2 (l : List UInt8) : List UInt8 := dl (d1 l) 2
def d3 (l : List UInt8) : List UInt8 := dl (d2 l) 9
def idV (l : List UInt8) : Int := mk3 (dn l 3) (dn (d1 l) 2) (1 + dn (d2 l) 9)
def encD1 (l : List UInt8) : List AV × List ABlk := ([.ptr 0 0 0 0],[diceB l])
noncomputable def idS : SpecFn := mkS2 encD1 fun l => (.int .u64 (idV l),[diceB (d3 l)])
theorem idS_eq (l : List UInt8) : idS [.ptr 0 0 0 0] [diceB l] = some (.int .u64 (idV l),[diceB (d3 l)]) :=
 mkS2_eq (enc:=encD1) (fun x y h=>by
   simp only [encD1,Prod.mk.injEq,List.cons.injEq,true_and,and_true] at h
   rw [diceB_inj h]) l
noncomputable def id_specs : NL Spec := [(8,⟨3,diceS⟩),(44,⟨1,mk3S⟩)]
theorem id_specs_ok : ∀ p ∈ id_specs,FnC Tryz.prog p.1 p.2.fn := by
 simp only [id_specs,List.mem_cons,List.not_mem_nil,or_false]
 rintro p (rfl | rfl)
 · exact dice_ok
 · exact mk3_ok
attribute [local simp] id_specs
theorem id_ok : FnC Tryz.prog 25 idS := by
 refine FnC.walkB 25 (fn:=Tryz.f25) Tryz.func25 rfl (by kernel_rfl) (fun x b hb=>by simp [encD1] at hb; rw [hb]; rfl) fun l=>?_
 change W _ (RetB _ _ 1 (.int .u64 (mk3 (dn l 3) (dn (d1 l) 2) (1 + dn (d2 l) 9))) [diceB (d3 l)]) _ _ ⟨17,[(0, .ptr 0 0 0 0)],[(0,diceB l)]⟩
 have c1:=diceS_eq l 3
 have c2:=diceS_eq (d1 l) 2
 have c3:=diceS_eq (d2 l) 9
 have u1:=dn_nonneg l 3
 have u2:=dn_nonneg (d1 l) 2
 have u3:=dn_nonneg (d2 l) 9
 have v1:=dn_lt l (n:=3) (by omega)
 have v2:=dn_lt (d1 l) (n:=2) (by omega)
 have v3:=dn_lt (d2 l) (n:=9) (by omega)
 change diceS _ _ = some (_,[diceB (d1 l)]) at c1
 change diceS _ _ = some (_,[diceB (d2 l)]) at c2
 change diceS _ _ = some (_,[diceB (d3 l)]) at c3
 generalize dn l 3 = a at *
 generalize dn (d1 l) 2 = b at *
 generalize dn (d2 l) 9 = c at *
 generalize d3 l = e3 at *
 generalize d2 l = e2 at *
 generalize d1 l = e1 at *
 have cm:=mk3S_eq ⟨a,b,1 + c,u1,by omega,u2,by omega,by omega,by omega⟩
 have hw : IntKind.i64.wrap (1 + c) = 1 + c:=w64 (by omega) (by omega)
 simp only [diceB] at c1 c2 c3
 dsimp only at cm
 repeat (first | refine ZS ?_ | refine ZK tm id_specs_ok rfl (by conv=>lhs; simp [diceB,c1,c2,c3,cm,hw]) fun _=>?_ | refine ZL tm id_specs_ok rfl (by conv=>lhs; simp [diceB,c1,c2,c3,cm,hw]) fun _=>?_)
 simp only [diceB]
 first | exact retE2_ok false (by conv => lhs; simp [retE2, frqT, frqV, frqVs, frqL, frq1, reachE, blkRefs, outE, nodupE, firstE, seqO, expB2, expF, refsB, refsL, AV.refs, AV.ren, renL, renB, List.range, List.range.loop, resVs, resV, pack]) | fail "no return here"
end
section
attribute [local simp] instA
attribute [-simp] mkv
attribute [local simp] mkv_hd hdA_cons hdA_ob hdA_ob'
end
section
attribute [local simp] instA
attribute [-simp] mkv
attribute [local simp] mkv_hd hdA_cons hdA_ob hdA_ob'
end
section
attribute [local simp] instA
attribute [-simp] mkv
attribute [local simp] mkv_hd hdA_cons hdA_ob hdA_ob'
end
end Go.Abs.Nx
namespace Go.Abs.Nx
open Go Go.Proofs Go.Abs
set_option linter.unusedSimpArgs false
set_option linter.unusedVariables false
section

end
end Go.Abs.Nx
namespace Go.Abs.Nx
open Go Go.Proofs Go.Abs
set_option maxRecDepth 100000
set_option maxHeartbeats 4000000
set_option linter.unusedSimpArgs false
set_option linter.unusedVariables false
section
attribute [local simp] instA
attribute [-simp] mkv
attribute [local simp] mkv_hd hdA_cons hdA_ob hdA_ob'
noncomputable def pn1S : SpecFn := mkS (fun d : Tok => [.agg d.c]) fun d => (.agg ({ d with pin := true } : Tok).c,[])
def obB (o : Ob) : ABlk := { gen := 0,kind := 2,elem := 44,size := 36,inl := false,rows := [o.cells] }
def encO (d : Tok × Ob) : List AV × List ABlk := ([.agg d.1.c, .ptr 0 0 0 0],[obB d.2])
noncomputable def pt_specs : NL Spec := [(29,⟨1,cobS⟩)]
attribute [local simp] pt_specs
noncomputable def pu1S : SpecFn := mkS2 encO fun d => (.agg ({ d.1 with obj := d.2 } : Tok).c,[obB d.2])
end
section
attribute [local simp] instA
end
section
attribute [local simp] instA
def iC (m : Int) : List AV := [.int .i64 m]
end
section
theorem AVi {k : IntKind} {a b : Int} (h : AV.int k a = AV.int k b) : a = b := by cases h; rfl
theorem map_inj' {α β : Type} {f : α → β} (hf : ∀ a b,f a = f b → a = b) : ∀ {s t : List α},s.map f = t.map f → s = t
 | [],[],_=>rfl
 | [],_ :: _,h=>by simp at h
 | _ :: _,[],h=>by simp at h
 | x :: r,y :: q,h=>by
   simp only [List.map_cons,List.cons.injEq] at h
   rw [hf _ _ h.1,map_inj' hf h.2]
end
section
attribute [local simp] slice3A slice3C instA
end
section
attribute [local simp] instA
noncomputable def nanR (x : Int) : AV := .bool false
noncomputable def nanS : SpecFn := mkS (fun p : Int => [.int .i64 p]) fun p => (nanR p,[])
theorem nan_eq (x : Int) : nanS [.int .i64 x] [] = some (nanR (x),[]) :=
 mkS_eq (enc:=fun p : Int=>[.int .i64 p]) (res:=fun p=>(nanR p,[])) (fun x y h=>by
   obtain ⟨h0,h⟩:=List.cons.inj h
   have e0:=AVi h0
   subst e0
   rfl) (x)
def cmpI (a b : Int) : Int := if a < b then -1 else if b < a then 1 else 0
@[simp] theorem cmpI_eq0 (a b : Int) : (cmpI a b == 0) = decide (a = b) := by
 unfold cmpI
 split
 · rw [decide_eq_false (by omega)]; rfl
 · split
   · rw [decide_eq_false (by omega)]; rfl
   · rw [decide_eq_true (by omega)]; rfl
@[simp] theorem cmpI_lt0 (a b : Int) : (cmpI a b < 0) ↔ a < b := by
 unfold cmpI
 split
 · simp [*]
 · split <;> simp <;> omega
noncomputable def cmp_ok_specs : NL Spec := [(92,⟨1,nanS⟩)]
attribute [local simp] cmp_ok_specs nan_eq
attribute [-simp] mkv
attribute [local simp] mkv_hd hdA_cons hdA_ob hdA_ob'
theorem half {lo hi : Nat} (h : lo + hi ≤ 9223372036854775807) : IntKind.i64.wrap ((IntKind.u64.wrap (IntKind.i64.wrap ((lo : Int) + (hi : Int)))).fdiv (2 ^ min 1 IntKind.u64.bits)) = (((lo + hi) / 2 : Nat) : Int) := by
 have h1 : IntKind.i64.wrap ((lo : Int) + (hi : Int)) = (lo : Int) + (hi : Int):=w64 (by omega) (by omega)
 have h2 : IntKind.u64.wrap ((lo : Int) + (hi : Int)) = (lo : Int) + (hi : Int):=by
   simp only [IntKind.wrap,IntKind.bits,IntKind.signed]
   simp
   omega
 have h3 : ((lo : Int) + (hi : Int)).fdiv (2 ^ min 1 IntKind.u64.bits) = (((lo + hi) / 2 : Nat) : Int):=by
   rw [Int.fdiv_eq_ediv_of_nonneg _ (by decide)]
   show ((lo : Int) + (hi : Int)) / 2 = _
   omega
 rw [h1,h2,h3]
 exact w64 (by omega) (by omega)
def bsF (c : Nat → Bool) (lo hi : Nat) : Nat :=
 if h : lo < hi then (if c ((lo + hi) / 2) then bsF c ((lo + hi) / 2 + 1) hi else bsF c lo ((lo + hi) / 2)) else lo
termination_by hi - lo
decreasing_by all_goals omega
theorem bsF_lt {c : Nat → Bool} {lo hi : Nat} (h : lo < hi) : bsF c lo hi = if c ((lo + hi) / 2) then bsF c ((lo + hi) / 2 + 1) hi else bsF c lo ((lo + hi) / 2) := by
 rw [bsF,dif_pos h]
theorem bsF_ge {c : Nat → Bool} {lo hi : Nat} (h : ¬ lo < hi) : bsF c lo hi = lo := by
 rw [bsF,dif_neg h]
def bsT (l : List Tok) (id : Int) : Nat := bsF (fun k => match l[k]? with | some t => decide (t.id < id) | none => false) 0 l.length
end
end Go.Abs.Nx
namespace Go.Abs.Dir
set_option linter.unusedSimpArgs false
set_option linter.unusedVariables false
section
structure Ent (O : Type) where
 id : Int
 owner : Int
 readers : List Int
 obj : O
 waiting : List Int
 queue : List (Int × Int)
inductive Mg (O : Type) where
 | rev (to : Int)
 | grant (to mode : Int) (obj : O)
def oth (l : List Int) (n : Int) : List Int := l.filter (fun x => x != n)
variable {O : Type}
end
end Go.Abs.Dir
namespace Go.Abs.Nx
open Go Go.Proofs Go.Abs
set_option maxRecDepth 100000
set_option maxHeartbeats 4000000
set_option linter.unusedSimpArgs false
set_option linter.unusedVariables false
section
attribute [local simp] instA
end
section
attribute [local simp] instA
end
end Go.Abs.Nx
namespace Go.Abs.Dir
set_option linter.unusedSimpArgs false
set_option linter.unusedVariables false
section
variable {O : Type}
structure Hd where
 mode : Int → Int
 demand : Int → Bool
 asked : Int → Int
def N4 (n : Int) : Prop := 0 ≤ n ∧ n ≤ 3
def Asc (l : List Int) : Prop := l.Pairwise (· < ·)
structure Pre (Pz : O → Prop) (z : O) (q : List (Int × Int)) (ow : Int) (rd : List Int) (ob : O) (h : Hd) : Prop where
 m2 : ∀ n,N4 n → (h.mode n = 2 ↔ ow = n)
 m1 : ∀ n,N4 n → (h.mode n = 1 ↔ n ∈ rd)
 m0 : ∀ n,N4 n → 0 ≤ h.mode n ∧ h.mode n ≤ 2
 owr : ow = -1 ∨ N4 ow
 rdr : ∀ n ∈ rd,N4 n
 asc : Asc rd
 one : ow ≠ -1 → rd = []
 obz : ow ≠ -1 → ob = z
 obp : Pz ob
 q1 : ∀ p ∈ q,N4 p.1 ∧ h.asked p.1 = p.2 ∧ (p.2 = 1 ∨ p.2 = 2) ∧ h.mode p.1 < p.2
 q2 : q.Pairwise (fun a b=>a.1 ≠ b.1)
 q3 : ∀ n,N4 n → h.asked n ≠ 0 → ∃ p ∈ q,p.1 = n
structure Inv (Pz : O → Prop) (z : O) (e : Ent O) (h : Hd) : Prop where
 pre : Pre Pz z e.queue e.owner e.readers e.obj h
 dem : ∀ n,N4 n → (h.demand n = true ↔ n ∈ e.waiting)
 wt : (e.waiting = [] ∧ e.queue = []) ∨ (e.waiting ≠ [] ∧ ∃ p q,e.queue = p :: q ∧ ((e.owner ≠ -1 ∧ e.waiting = [e.owner]) ∨ (e.owner = -1 ∧ p.2 = 2 ∧ e.waiting = oth e.readers p.1)))
theorem N4_cases {n : Int} (h : N4 n) : n = 0 ∨ n = 1 ∨ n = 2 ∨ n = 3 := by unfold N4 at h; omega
theorem nodup_len : ∀ {l S : List Int},l.Nodup → (∀ x ∈ l,x ∈ S) → l.length ≤ S.length
 | [],_,_,_=>Nat.zero_le _
 | x :: r,S,h,hs=>by
   obtain ⟨h1,h2⟩:=List.pairwise_cons.1 h
   have hx:=hs x (by simp)
   have h3:=nodup_len (l:=r) (S:=S.erase x) h2 (fun y hy=>(List.mem_erase_of_ne (h1 y hy).symm).2 (hs y (by simp [hy])))
   rw [List.length_erase_of_mem hx] at h3
   have:=List.length_pos_of_mem hx
   simp only [List.length_cons]
   omega
theorem Inv.q4 {Pz : O → Prop} {z : O} {e : Ent O} {h : Hd} (hi : Inv Pz z e h) : e.queue.length ≤ 4 := by
 have h1 : (e.queue.map (·.1)).Nodup:=by
   rw [List.Nodup,List.pairwise_map]
   exact hi.pre.q2
 have h2 : ∀ x ∈ e.queue.map (·.1),x ∈ [(0 : Int),1,2,3]:=fun x hx=>by
   obtain ⟨p,hp,rfl⟩:=List.mem_map.1 hx
   have:=N4_cases (hi.pre.q1 p hp).1
   simpa using this
 have:=nodup_len h1 h2
 simpa using this
end
end Go.Abs.Dir
namespace Go.Abs.Nx
open Go Go.Proofs Go.Abs
set_option maxRecDepth 100000
set_option maxHeartbeats 4000000
set_option linter.unusedSimpArgs false
set_option linter.unusedVariables false
section
abbrev En := Dir.Ent Ob
def askC (p : Int × Int) : List AV := [.int .i64 p.1, .int .i64 p.2]
@[simp] def enC (e : En) : List AV := .int .u64 e.id :: .int .i64 e.owner :: .list 1 (e.readers.map iC) :: (e.obj.cells ++ [.list 1 (e.waiting.map iC), .list 2 (e.queue.map askC)])
theorem iC_inj {l m : List Int} (h : l.map iC = m.map iC) : l = m := map_inj' (fun a b h => by simpa [iC] using h) h
theorem askC_inj {l m : List (Int × Int)} (h : l.map askC = m.map askC) : l = m := map_inj' (fun a b h => by
 obtain ⟨a,b⟩:=a
 simpa [askC,Prod.ext_iff] using h) h
theorem enC_inj {s t : En} (h : enC s = enC t) : s = t := by
 obtain ⟨a,b,r,o,w,q⟩:=s
 obtain ⟨a',b',r',o',w',q'⟩:=t
 simp only [enC,List.cons.injEq,AV.int.injEq,AV.list.injEq,true_and] at h
 obtain ⟨rfl,rfl,h0,h⟩:=h
 obtain ⟨h1,h2⟩:=List.append_inj h (by simp)
 simp only [List.cons.injEq,AV.list.injEq,true_and,and_true] at h2
 cases iC_inj h0
 cases iC_inj h2.1
 cases askC_inj h2.2
 rw [Td.ext h1]
theorem enCs_inj {l m : List En} (h : l.map enC = m.map enC) : l = m := map_inj' (fun a b h => enC_inj h) h
def okE (e : En) : Prop := e.readers.length ≤ 9000 ∧ e.waiting.length ≤ 9000 ∧ e.queue.length ≤ 8000
structure Drs where
 node : Int
 ents : List En
 bd : ents.length ≤ 9000
 bde : ∀ e ∈ ents,okE e
def Drs.v (d : Drs) : AV := .agg [.int .i64 d.node, .list 41 (d.ents.map enC)]
theorem Drs.v_inj {s t : Drs} (h : s.v = t.v) : s = t := by
 obtain ⟨a,l,b,c⟩:=s
 obtain ⟨a',l',b',c'⟩:=t
 simp only [Drs.v,AV.agg.injEq,List.cons.injEq,AV.int.injEq,AV.list.injEq,true_and,and_true] at h
 obtain ⟨rfl,h⟩:=h
 cases enCs_inj h
 rfl
attribute [local simp] instA
attribute [-simp] mkv
attribute [local simp] mkv_hd hdA_cons hdA_ob hdA_ob'
def goodN (l : List Int) (j : Nat) : Bool := match l[j]? with
 | none=>true
 | some t=>okN t && match j with
   | 0=>true
   | i + 1=>match l[i]? with
     | some s=>decide (s < t)
     | none=>true
def ascN (l : List Int) : Bool := (List.range l.length).all (goodN l)
end
section
attribute [local simp] instA
end
section
attribute [local simp] instA
attribute [-simp] mkv
attribute [local simp] mkv_hd hdA_cons hdA_ob hdA_ob'
end
section
attribute [local simp] instA slice3A slice3C
attribute [-simp] mkv
attribute [local simp] mkv_hd hdA_cons hdA_ob hdA_ob'
end
section
attribute [local simp] instA
attribute [-simp] mkv
attribute [local simp] mkv_hd hdA_cons hdA_ob hdA_ob'
end
section
attribute [local simp] instA
attribute [-simp] mkv
attribute [local simp] mkv_hd hdA_cons hdA_ob hdA_ob'
@[simp] def sesC (e : En) (nd : Int) (M : AV) : List AV := .int .u64 e.id :: .int .i64 e.owner :: .list 1 (e.readers.map iC) :: (e.obj.cells ++ [.list 1 (e.waiting.map iC), .list 2 (e.queue.map askC), .int .i64 nd,M])
def graM (nd id n m : Int) (o : Ob) : Msg := ⟨nd,n,2,id,m,o,0,0,0,0⟩
noncomputable def revM (nd id n : Int) : Msg := ⟨nd,n,3,id,0,zOb,0,0,0,0⟩
structure Gr where
 e : En
 nd : Int
 ms : List Msg
 n : Int
 m : Int
 q : List (Int × Int)
 hq : e.queue = (n,m) :: q
 hl : e.queue.length ≤ 9000
 hm : ms.length ≤ 90000
noncomputable def gra_specs : NL Spec := [(29,⟨1,cobS⟩)]
attribute [local simp] gra_specs
structure De where
 e : En
 nd : Int
 ms : List Msg
 ns : List Int
 h0 : 0 < ns.length
 hl : ns.length ≤ 9100
 hm : ms.length ≤ 90000
end
section
attribute [local simp] instA
attribute [-simp] mkv
attribute [local simp] mkv_hd hdA_cons hdA_ob hdA_ob'
def srt (l : List Int) : List Int := l.mergeSort fun x y => decide (x ≤ y)
noncomputable def mgM (nd id : Int) : Dir.Mg Ob → Msg
 | .rev to=>revM nd id to
 | .grant to m o=>graM nd id to m o
structure Go where
 e : En
 nd : Int
 h1 : e.readers.length + e.queue.length ≤ 9000
 h2 : e.waiting.length ≤ 9000
 h3 : Dir.Asc e.readers
theorem cI : Tryz.prog.cellsOf 3 = 1 := by kernel_rfl
end
section
attribute [local simp] instA slice3A slice3C
attribute [-simp] mkv
attribute [local simp] mkv_hd hdA_cons hdA_ob hdA_ob'
end
section
attribute [local simp] instA slice3A slice3C
attribute [-simp] mkv
attribute [local simp] mkv_hd hdA_cons hdA_ob hdA_ob'
def bsD (l : List En) (id : Int) : Nat := bsF (fun k => match l[k]? with | some t => decide (t.id < id) | none => false) 0 l.length
theorem bsF_bd (c : Nat → Bool) : ∀ (d lo hi : Nat),hi - lo = d → lo ≤ hi → lo ≤ bsF c lo hi ∧ bsF c lo hi ≤ hi := by
 intro d
 induction d using Nat.strongRecOn with
 | ind d ih =>
   intro lo hi hd hl
   by_cases h : lo < hi
   · rw [bsF_lt h]
     split
     · have:=ih (hi - ((lo + hi) / 2 + 1)) (by omega) ((lo + hi) / 2 + 1) hi rfl (by omega)
       omega
     · have:=ih ((lo + hi) / 2 - lo) (by omega) lo ((lo + hi) / 2) rfl (by omega)
       omega
   · rw [bsF_ge h]
     omega
theorem bsD_le (l : List En) (id : Int) : bsD l id ≤ l.length := (bsF_bd _ _ 0 l.length rfl (by omega)).2
theorem insD_eq (elem size bytes n i : Nat) (rows : List (List AV)) (z : List AV) (hn : n = rows.length) (h1 : n ≤ 1000000) (hb : (n + 1) * bytes ≤ 140737488355328) (hi : i ≤ n) : insertC elem size bytes [.sl 0 0 0 n, .int .i64 (i : Nat), .sl 1 0 0 1] [{ gen := 0,kind := 2,elem := elem,size := size,inl := true,rows }, { gen := 0,kind := 2,elem := elem,size := size,inl := true,rows := [z] }] = some (.sl 0 1 0 (n + 1),[{ gen := 1,kind := 2,elem := elem,size := size,inl := true,rows := rows.take i ++ [z] ++ rows.drop i }, { gen := 0,kind := 2,elem := elem,size := size,inl := true,rows := [z] }]) := by
 unfold insertC
 simp only [okB,beq_self_eq_true,Bool.and_self,true_and,Int.toNat_natCast,rowB]
 rw [if_pos ⟨hn,rfl,hb,h1,by omega,by omega⟩]
end
section
attribute [local simp] instA slice3A slice3C
attribute [-simp] mkv
attribute [local simp] mkv_hd hdA_cons hdA_ob hdA_ob'
theorem uM : Tryz.prog.underlying 55 = some (.slice 46) := by kernel_rfl
theorem cM : Tryz.prog.cellsOf 46 = 45 := by kernel_rfl
theorem listR_app : ∀ {a : List AV} (_ : a.all AV.isInl = true) (l : List AV) (H : NL ABlk),listR frz0R (a ++ l) H = mapO (fun r => a ++ r) (listR frz0R l H)
 | [],_,l,H=>by
   show listR frz0R l H = _
   cases listR frz0R l H with
   | none=>rfl
   | some o=>rfl
 | x :: a,h,l,H=>by
   simp only [List.all_cons,Bool.and_eq_true] at h
   rw [List.cons_append,listR,frz0R_inl h.1,nxt_some,listR_app h.2,nxt_map, ← nxt_ret]
   rfl
@[local simp] theorem listR_ob (o : Ob) (l : List AV) (H : NL ABlk) : listR frz0R (o.cells ++ l) H = mapO (fun r => o.cells ++ r) (listR frz0R l H) := listR_app o.isInl l H
structure Fin where
 d : Drs
 e : En
 h1 : e.readers.length + e.queue.length ≤ 9000
 h2 : e.waiting.length ≤ 9000
 h3 : Dir.Asc e.readers
end
section
attribute [local simp] instA
attribute [-simp] mkv
attribute [local simp] mkv_hd hdA_cons hdA_ob hdA_ob'
end
section
attribute [local simp] instA
attribute [-simp] mkv
attribute [local simp] mkv_hd hdA_cons hdA_ob hdA_ob'
end
section

end
section
attribute [local simp] instA
attribute [-simp] mkv
attribute [local simp] mkv_hd hdA_cons hdA_ob hdA_ob'
@[simp] def hdC (h : Dir.Hd) : List AV := [.int .i64 (h.mode 0), .int .i64 (h.mode 1), .int .i64 (h.mode 2), .int .i64 (h.mode 3), .bool (h.demand 0), .bool (h.demand 1), .bool (h.demand 2), .bool (h.demand 3), .int .i64 (h.asked 0), .int .i64 (h.asked 1), .int .i64 (h.asked 2), .int .i64 (h.asked 3)]
noncomputable def mgs (nd id : Int) (l : List (Dir.Mg Ob)) : List AV := [.list 45 ((l.map (mgM nd id)).map Msg.v)]
end
section
def Pz (id : Int) (o : Ob) : Prop := (oid o == id || zO? o) = true
end
section
attribute [local simp] instA slice3A slice3C
noncomputable def rzero_specs : NL Spec := [(93,⟨1,brS⟩)]
attribute [local simp] rzero_specs
def wit (n : Int) : List Int → List Int
 | []=>[n]
 | x :: r=>if x < n then x :: wit n r else if x = n then x :: r else n :: x :: r
end
section
attribute [local simp] instA slice3A slice3C
attribute [-simp] mkv
attribute [local simp] mkv_hd hdA_cons hdA_ob hdA_ob'
end
end Go.Abs.Nx
