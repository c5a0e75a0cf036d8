/- The statement NetworkApartSaid: for every input the law answers true and leaves its arguments as they were. Conditions: none. -/
import Derived.Test.YtphclapfniepoaaNn7
import Derived.Test.YtphclapfniepoaaAb8
import Derived.Test.YtphclapfniepoaaRows
namespace Go.Proofs.Ytphclapfniepoaa
set_option maxRecDepth 100000
set_option linter.unusedSimpArgs false
set_option linter.unusedVariables false
open Go.ChangeShapes Go.WideShapes Go.ChangeAt Go.RowKit Go.Abs Go.Abs.Nn
section
theorem Try.own : ownKnob Try.prog.godebug = none := by kernel_rfl
theorem Try.laidOut : laidOutB Try.prog = true := by kernel_rfl
theorem tu4 : Try.prog.underlying 4 = some .bool := by kernel_rfl
theorem jf_inPlace : (Rows.networkApartRow.inPlace == Try.prog.inPlace 3) = true := by kernel_rfl
theorem jf_unfol : (Rows.networkApartRow.unfollowed == Try.prog.unfollowed 3) = true := by kernel_rfl
theorem jf_recur : (Rows.networkApartRow.recurses == Try.prog.recurses 3) = true := by kernel_rfl
theorem jf_named : (Rows.networkApartRow.named == Try.prog.varsNamed 3) = true := by kernel_rfl
theorem jf_plK : (Rows.networkApartRow.plainKeys == Try.prog.plainKeys) = true := by kernel_rfl
theorem jf_stH : Try.prog.stopsHeard = true := by kernel_rfl
theorem jf_mayE : Try.prog.mayEnter = true := by kernel_rfl
theorem jf_lif : (Rows.networkApartRow.lifted == Try.prog.liftsFinal) = true := by kernel_rfl
theorem jf_mke : (Try.prog.make == some Rows.networkApartRow.make) = true := by kernel_rfl
theorem jf_mapsR : mapsRowed Try.prog = true := by kernel_rfl
theorem jf_closed : joinedFacts Try.prog 3 Try.f3 Rows.networkApartSpec Rows.networkApartRow = true := by
 unfold joinedFacts
 simp only [Bool.and_eq_true]
 and_intros
 · kernel_rfl
 · exact Try.laidOut
 · exact jf_mapsR
 · kernel_rfl
 · kernel_rfl
 · kernel_rfl
 · kernel_rfl
 · kernel_rfl
 · kernel_rfl
 · exact jf_inPlace
 · exact jf_unfol
 · exact jf_recur
 · exact jf_named
 · kernel_rfl
 · kernel_rfl
 · kernel_rfl
 · kernel_rfl
 · kernel_rfl
 · kernel_rfl
 · kernel_rfl
 · kernel_rfl
 · kernel_rfl
 · exact jf_plK
 · kernel_rfl
 · exact jf_stH
 · exact jf_mayE
 · exact jf_lif
 · exact jf_mke
 · kernel_rfl
 · kernel_rfl
 · kernel_rfl
 · kernel_rfl
set_option maxRecDepth 100000 in
theorem networkApart_lifted (os : Os) (started : os.Started) (H : Type) (enc : TypeId × Value → H) :
   ReturnsInHanded {} Try.checked os 3 .any (Rows.networkApartSpec.pre6 enc Try.prog Try.f3 Rows.networkApartRow.domain false) (Rows.networkApartSpec.post enc Try.prog Try.f3 false true false false):=by
 refine returnsInHanded_of_change (C:=Try.checked) Try.own started (by kernel_rfl) Try.func3
   (ChangeSpec.witness6 (enc:=enc) (C:=Try.checked) false ⟨#[], #[.slice none 0 0, .int .u8 0, .int .u8 0, .int .u8 0, .int .u8 0],[]⟩ 8 (by kernel_rfl) (by kernel_rfl) (by kernel_rfl) (by kernel_rfl)) ?_
 intro W base args ds gs before hval hW _ _
 obtain ⟨p,q,hA,_⟩:=id hW
 obtain ⟨xs,hx,hr⟩:=TrodAll_rep (n:=9) _ _ _ _ (by rw [Try.params3]; exact List.all_eq_true.1 (by kernel_rfl)) (fun j t v h1 h2=>hval j t v (by simpa using h1) (by simpa using h2)) hA
 rw [Try.params3] at hx
 simp only [TyFs] at hx
 obtain ⟨_,_,rfl,⟨x0,rfl,hx0⟩,_,_,rfl,⟨x1,rfl,hx1⟩,_,_,rfl,⟨x2,rfl,hx2⟩,_,_,rfl,⟨x3,rfl,hx3⟩,_,_,rfl,⟨x4,rfl,hx4⟩,rfl⟩:=hx
 obtain ⟨l,rfl⟩:=shSeeds hx0
 obtain ⟨a,ha,rfl⟩:=shU8 hx1
 obtain ⟨b,hb,rfl⟩:=shU8 hx2
 obtain ⟨c,hc,rfl⟩:=shU8 hx3
 obtain ⟨d,hd,rfl⟩:=shU8 hx4
 exact law_calls (fn:=Try.f3) napS_ok Try.laidOut (by
     rw [Try.params3]
     intro t ht
     have h1 : ∀ t ∈ (Func.params Try.f3).toList,Try.prog.readableRec t = true:=List.all_eq_true.1 (by kernel_rfl)
     have h2 : ∀ t ∈ (Func.params Try.f3).toList,decide (t < Try.prog.types.size) = true:=List.all_eq_true.1 (by kernel_rfl)
     rw [Try.params3] at h1 h2
     exact ⟨h1 t ht,of_decide_eq_true (h2 t ht)⟩) rfl tu4 rfl (fun ds h=>by
   match ds,h with
   | [d0,d1,d2,d3,d4],_=>rfl) hW hr (napS_eq l a b c d ha hb hc hd)
theorem networkApart_holds : Rows.NetworkApartSaid :=
 OpenClaim.holds_of_wide 3 Try.f3 rfl rfl rfl rfl rfl rfl rfl ⟨rfl,rfl,rfl,rfl,rfl⟩ rfl rfl rfl rfl rfl (by kernel_rfl) Try.func3 jf_closed
   (of_decide_eq_true (by kernel_rfl)) (by unfold Func.isWrapper; first | (rw [if_pos (by decide +kernel)]; kernel_rfl) | (rw [if_neg (by decide +kernel)]; exact ⟨rfl,rfl⟩))
   (fun os started H enc _=>networkApart_lifted os started H enc)
end
end Go.Proofs.Ytphclapfniepoaa
