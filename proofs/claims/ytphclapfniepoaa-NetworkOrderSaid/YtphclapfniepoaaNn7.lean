/- Networks: what the inputs of NetworkOrder look like. Conditions: none. -/
import Derived.Test.YtphclapfniepoaaNn6
import Derived.Test.YtphclapfniepoaaAb8
namespace Go.Abs.Nn
open Go Go.Proofs Go.Abs
set_option maxRecDepth 100000
set_option maxHeartbeats 4000000
set_option linter.unusedSimpArgs false
set_option linter.unusedVariables false
section
theorem shOps {x : AV} (h : TyV Try.prog 9 22 x) : ∃ l : Opn,x = .list 1 (l.1.map byte) := by
 simp only [TyV,TyR,Try.underlying22,Try.underlying5,vc5,List.cons.injEq,and_true] at h
 obtain ⟨rows,rfl,hl,h⟩:=h
 have : ∀ rows : List (List AV),(∀ row ∈ rows, ∃ m,row = [AV.int .u8 m] ∧ (Lit.int .u8 m).wf = true) → ∃ l : List UInt8,rows = l.map byte:=by
   intro rows
   induction rows with
   | nil=>exact fun _=>⟨[],rfl⟩
   | cons r rs ih =>
     intro h
     obtain ⟨l,hl⟩:=ih fun row hr=>h row (by simp [hr])
     obtain ⟨m,rfl,hm⟩:=h r (by simp)
     simp only [Lit.wf,Bool.and_eq_true,decide_eq_true_eq] at hm
     have h1 : (0 : Int) ≤ m:=hm.1
     have h2 : m ≤ 255:=hm.2
     refine ⟨UInt8.ofNat m.toNat :: l, ?_⟩
     rw [List.map_cons,hl]
     congr 1
     simp only [byte,UInt8.toNat_ofNat',List.cons.injEq,AV.int.injEq,true_and,and_true]
     omega
 obtain ⟨l,rfl⟩:=this rows h
 exact ⟨⟨l,by simpa using hl⟩,rfl⟩
noncomputable def norS : SpecFn := mkS (fun l : Opn => [.list 1 (l.1.map byte)]) fun _ => (.bool true,[])
theorem norS_ok : FnC Try.prog 4 norS := nor_ok
theorem norS_eq (l : Opn) : norS [.list 1 (l.1.map byte)] [] = some (.bool true,[]) := mkS_eq (enc := fun l : Opn => [.list 1 (l.1.map byte)]) (fun _ _ _ => rfl) l
end
end Go.Abs.Nn
