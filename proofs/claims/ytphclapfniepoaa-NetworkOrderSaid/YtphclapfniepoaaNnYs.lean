/- The statement NetworkOrderSaid: for every input the law answers true and leaves its arguments as they were. Conditions: none. -/
import Derived.Test.YtphclapfniepoaaNn7
import Derived.Test.YtphclapfniepoaaAb8
import Derived.Test.YtphclapfniepoaaRows
namespace Go.Proofs.Ytphclapfniepoaa
set_option maxRecDepth 100000
set_option linter.unusedSimpArgs false
set_option linter.unusedVariables false
open Go.ChangeShapes Go.WideShapes Go.ChangeAt Go.RowKit Go.Abs Go.Abs.Nn
section
theorem Try.own : ownKnob Try.prog.godebug = none := by kernel_rfl
theorem Try.laidOut : laidOutB Try.prog = true := by kernel_rfl
theorem tu4 : Try.prog.underlying 4 = some .bool := by kernel_rfl
theorem jf_inPlace : (Rows.networkOrderRow.inPlace == Try.prog.inPlace 4) = true := by kernel_rfl
theorem jf_unfol : (Rows.networkOrderRow.unfollowed == Try.prog.unfollowed 4) = true := by kernel_rfl
theorem jf_recur : (Rows.networkOrderRow.recurses == Try.prog.recurses 4) = true := by kernel_rfl
theorem jf_named : (Rows.networkOrderRow.named == Try.prog.varsNamed 4) = true := by kernel_rfl
theorem jf_plK : (Rows.networkOrderRow.plainKeys == Try.prog.plainKeys) = true := by kernel_rfl
theorem jf_stH : Try.prog.stopsHeard = true := by kernel_rfl
theorem jf_mayE : Try.prog.mayEnter = true := by kernel_rfl
theorem jf_lif : (Rows.networkOrderRow.lifted == Try.prog.liftsFinal) = true := by kernel_rfl
theorem jf_mke : (Try.prog.make == some Rows.networkOrderRow.make) = true := by kernel_rfl
theorem jf_mapsR : mapsRowed Try.prog = true := by kernel_rfl
theorem jf_closed : joinedFacts Try.prog 4 Try.f4 Rows.networkOrderSpec Rows.networkOrderRow = true := by
 unfold joinedFacts
 simp only [Bool.and_eq_true]
 and_intros
 · kernel_rfl
 · exact Try.laidOut
 · exact jf_mapsR
 · kernel_rfl
 · kernel_rfl
 · kernel_rfl
 · kernel_rfl
 · kernel_rfl
 · kernel_rfl
 · exact jf_inPlace
 · exact jf_unfol
 · exact jf_recur
 · exact jf_named
 · kernel_rfl
 · kernel_rfl
 · kernel_rfl
 · kernel_rfl
 · kernel_rfl
 · kernel_rfl
 · kernel_rfl
 · kernel_rfl
 · kernel_rfl
 · exact jf_plK
 · kernel_rfl
 · exact jf_stH
 · exact jf_mayE
 · exact jf_lif
 · exact jf_mke
 · kernel_rfl
 · kernel_rfl
 · kernel_rfl
 · kernel_rfl
set_option maxRecDepth 100000 in
theorem networkOrder_lifted (os : Os) (started : os.Started) (H : Type) (enc : TypeId × Value → H) :
   ReturnsInHanded {} Try.checked os 4 .any (Rows.networkOrderSpec.pre6 enc Try.prog Try.f4 Rows.networkOrderRow.domain false) (Rows.networkOrderSpec.post enc Try.prog Try.f4 false true false false):=by
 refine returnsInHanded_of_change (C:=Try.checked) Try.own started (by kernel_rfl) Try.func4
   (ChangeSpec.witness6 (enc:=enc) (C:=Try.checked) false ⟨#[], #[.slice none 0 0],[]⟩ 8 (by kernel_rfl) (by kernel_rfl) (by kernel_rfl) (by kernel_rfl)) ?_
 intro W base args ds gs before hval hW _ _
 obtain ⟨p,q,hA,_⟩:=id hW
 obtain ⟨xs,hx,hr⟩:=TrodAll_rep (n:=9) _ _ _ _ (by rw [Try.params4]; exact List.all_eq_true.1 (by kernel_rfl)) (fun j t v h1 h2=>hval j t v (by simpa using h1) (by simpa using h2)) hA
 rw [Try.params4] at hx
 simp only [TyFs] at hx
 obtain ⟨_,_,rfl,⟨x0,rfl,hx0⟩,rfl⟩:=hx
 obtain ⟨ops,rfl⟩:=shOps hx0
 exact law_calls (fn:=Try.f4) norS_ok Try.laidOut (by
     rw [Try.params4]
     intro t ht
     have h1 : ∀ t ∈ (Func.params Try.f4).toList,Try.prog.readableRec t = true:=List.all_eq_true.1 (by kernel_rfl)
     have h2 : ∀ t ∈ (Func.params Try.f4).toList,decide (t < Try.prog.types.size) = true:=List.all_eq_true.1 (by kernel_rfl)
     rw [Try.params4] at h1 h2
     exact ⟨h1 t ht,of_decide_eq_true (h2 t ht)⟩) rfl tu4 rfl (fun ds h=>by
   match ds,h with
   | [d0],_=>rfl) hW hr (norS_eq ops)
theorem networkOrder_holds : Rows.NetworkOrderSaid :=
 OpenClaim.holds_of_wide 4 Try.f4 rfl rfl rfl rfl rfl rfl rfl ⟨rfl,rfl,rfl,rfl,rfl⟩ rfl rfl rfl rfl rfl (by kernel_rfl) Try.func4 jf_closed
   (of_decide_eq_true (by kernel_rfl)) (by unfold Func.isWrapper; first | (rw [if_pos (by decide +kernel)]; kernel_rfl) | (rw [if_neg (by decide +kernel)]; exact ⟨rfl,rfl⟩))
   (fun os started H enc _=>networkOrder_lifted os started H enc)
end
end Go.Proofs.Ytphclapfniepoaa
