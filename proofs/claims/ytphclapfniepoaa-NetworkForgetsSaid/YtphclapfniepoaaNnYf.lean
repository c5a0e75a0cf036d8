/- The statement NetworkForgetsSaid: for every input the law answers true and leaves its arguments as they were. Conditions: none. -/
import Derived.Test.YtphclapfniepoaaNn8
import Derived.Test.YtphclapfniepoaaAb8
import Derived.Test.YtphclapfniepoaaRows
namespace Go.Proofs.Ytphclapfniepoaa
set_option maxRecDepth 100000
set_option linter.unusedSimpArgs false
set_option linter.unusedVariables false
open Go.ChangeShapes Go.WideShapes Go.ChangeAt Go.RowKit Go.Abs Go.Abs.Nn
section
theorem Try.own : ownKnob Try.prog.godebug = none := by kernel_rfl
theorem Try.laidOut : laidOutB Try.prog = true := by kernel_rfl
theorem tu4 : Try.prog.underlying 4 = some .bool := by kernel_rfl
theorem jf_inPlace : (Rows.networkForgetsRow.inPlace == Try.prog.inPlace 5) = true := by kernel_rfl
theorem jf_unfol : (Rows.networkForgetsRow.unfollowed == Try.prog.unfollowed 5) = true := by kernel_rfl
theorem jf_recur : (Rows.networkForgetsRow.recurses == Try.prog.recurses 5) = true := by kernel_rfl
theorem jf_named : (Rows.networkForgetsRow.named == Try.prog.varsNamed 5) = true := by kernel_rfl
theorem jf_plK : (Rows.networkForgetsRow.plainKeys == Try.prog.plainKeys) = true := by kernel_rfl
theorem jf_stH : Try.prog.stopsHeard = true := by kernel_rfl
theorem jf_mayE : Try.prog.mayEnter = true := by kernel_rfl
theorem jf_lif : (Rows.networkForgetsRow.lifted == Try.prog.liftsFinal) = true := by kernel_rfl
theorem jf_mke : (Try.prog.make == some Rows.networkForgetsRow.make) = true := by kernel_rfl
theorem jf_mapsR : mapsRowed Try.prog = true := by kernel_rfl
theorem jf_closed : joinedFacts Try.prog 5 Try.f5 Rows.networkForgetsSpec Rows.networkForgetsRow = true := by
 unfold joinedFacts
 simp only [Bool.and_eq_true]
 and_intros
 · kernel_rfl
 · exact Try.laidOut
 · exact jf_mapsR
 · kernel_rfl
 · kernel_rfl
 · kernel_rfl
 · kernel_rfl
 · kernel_rfl
 · kernel_rfl
 · exact jf_inPlace
 · exact jf_unfol
 · exact jf_recur
 · exact jf_named
 · kernel_rfl
 · kernel_rfl
 · kernel_rfl
 · kernel_rfl
 · kernel_rfl
 · kernel_rfl
 · kernel_rfl
 · kernel_rfl
 · kernel_rfl
 · exact jf_plK
 · kernel_rfl
 · exact jf_stH
 · exact jf_mayE
 · exact jf_lif
 · exact jf_mke
 · kernel_rfl
 · kernel_rfl
 · kernel_rfl
 · kernel_rfl
set_option maxRecDepth 100000 in
theorem networkForgets_lifted (os : Os) (started : os.Started) (H : Type) (enc : TypeId × Value → H) :
   ReturnsInHanded {} Try.checked os 5 .any (Rows.networkForgetsSpec.pre6 enc Try.prog Try.f5 Rows.networkForgetsRow.domain false) (Rows.networkForgetsSpec.post enc Try.prog Try.f5 false true false false):=by
 refine returnsInHanded_of_change (C:=Try.checked) Try.own started (by kernel_rfl) Try.func5
   (ChangeSpec.witness6 (enc:=enc) (C:=Try.checked) false ⟨#[], #[.slice none 0 0, .int .u8 0],[]⟩ 8 (by kernel_rfl) (by kernel_rfl) (by kernel_rfl) (by kernel_rfl)) ?_
 intro W base args ds gs before hval hW _ _
 obtain ⟨p,q,hA,_⟩:=id hW
 obtain ⟨xs,hx,hr⟩:=TrodAll_rep (n:=9) _ _ _ _ (by rw [Try.params5]; exact List.all_eq_true.1 (by kernel_rfl)) (fun j t v h1 h2=>hval j t v (by simpa using h1) (by simpa using h2)) hA
 rw [Try.params5] at hx
 simp only [TyFs] at hx
 obtain ⟨_,_,rfl,⟨x0,rfl,hx0⟩,_,_,rfl,⟨x1,rfl,hx1⟩,rfl⟩:=hx
 obtain ⟨l,rfl⟩:=shSeeds hx0
 obtain ⟨n,hn,rfl⟩:=shU8 hx1
 exact law_calls (fn:=Try.f5) nfgS_ok Try.laidOut (by
     rw [Try.params5]
     intro t ht
     have h1 : ∀ t ∈ (Func.params Try.f5).toList,Try.prog.readableRec t = true:=List.all_eq_true.1 (by kernel_rfl)
     have h2 : ∀ t ∈ (Func.params Try.f5).toList,decide (t < Try.prog.types.size) = true:=List.all_eq_true.1 (by kernel_rfl)
     rw [Try.params5] at h1 h2
     exact ⟨h1 t ht,of_decide_eq_true (h2 t ht)⟩) rfl tu4 rfl (fun ds h=>by
   match ds,h with
   | [d0,d1],_=>rfl) hW hr (nfgS_eq l n hn)
theorem networkForgets_holds : Rows.NetworkForgetsSaid :=
 OpenClaim.holds_of_wide 5 Try.f5 rfl rfl rfl rfl rfl rfl rfl ⟨rfl,rfl,rfl,rfl,rfl⟩ rfl rfl rfl rfl rfl (by kernel_rfl) Try.func5 jf_closed
   (of_decide_eq_true (by kernel_rfl)) (by unfold Func.isWrapper; first | (rw [if_pos (by decide +kernel)]; kernel_rfl) | (rw [if_neg (by decide +kernel)]; exact ⟨rfl,rfl⟩))
   (fun os started H enc _=>networkForgets_lifted os started H enc)
end
end Go.Proofs.Ytphclapfniepoaa
