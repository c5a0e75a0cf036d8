/- The statement NetworkMovesUptoSaid: for every input whose bulk is at most 1048576 the law answers true and leaves its arguments as they were. Conditions: none. -/
import Derived.Test.YtphclapfniepoaaGreatNx8
import Derived.Test.YtphclapfniepoaaGreatAb8
import Derived.JoinedCond
import Derived.Test.YtphclapfniepoaaGreatRows
namespace Go.Proofs.YtphclapfniepoaaGreat
set_option maxRecDepth 100000
set_option linter.unusedSimpArgs false
set_option linter.unusedVariables false
open Go.ChangeShapes Go.WideShapes Go.ChangeAt Go.RowKit Go.Abs Go.Abs.Nx
section
theorem Tryz.own : ownKnob Tryz.prog.godebug = none := by kernel_rfl
theorem Tryz.laidOut : laidOutB Tryz.prog = true := by kernel_rfl
theorem tu4 : Tryz.prog.underlying 4 = some .bool := by kernel_rfl
theorem jf_inPlace : (Rows.networkMovesUptoRow.inPlace == Tryz.prog.inPlace 3) = true := by kernel_rfl
theorem jf_unfol : (Rows.networkMovesUptoRow.unfollowed == Tryz.prog.unfollowed 3) = true := by kernel_rfl
theorem jf_recur : (Rows.networkMovesUptoRow.recurses == Tryz.prog.recurses 3) = true := by kernel_rfl
theorem jf_named : (Rows.networkMovesUptoRow.named == Tryz.prog.varsNamed 3) = true := by kernel_rfl
theorem jf_plK : (Rows.networkMovesUptoRow.plainKeys == Tryz.prog.plainKeys) = true := by kernel_rfl
theorem jf_stH : Tryz.prog.stopsHeard = true := by kernel_rfl
theorem jf_mayE : Tryz.prog.mayEnter = true := by kernel_rfl
theorem jf_lif : (Rows.networkMovesUptoRow.lifted == Tryz.prog.liftsFinal) = true := by kernel_rfl
theorem jf_mke : (Tryz.prog.make == some Rows.networkMovesUptoRow.make) = true := by kernel_rfl
theorem jf_mapsR : mapsRowed Tryz.prog = true := by kernel_rfl
theorem jf_closed : joinedFacts Tryz.prog 3 Tryz.f3 (Rows.OpenSpec.upto Rows.networkMovesSpec).bare Rows.networkMovesUptoRow = true := by
 unfold joinedFacts
 simp only [Bool.and_eq_true]
 and_intros
 · kernel_rfl
 · exact Tryz.laidOut
 · exact jf_mapsR
 · kernel_rfl
 · kernel_rfl
 · kernel_rfl
 · kernel_rfl
 · kernel_rfl
 · kernel_rfl
 · exact jf_inPlace
 · exact jf_unfol
 · exact jf_recur
 · exact jf_named
 · kernel_rfl
 · kernel_rfl
 · kernel_rfl
 · kernel_rfl
 · kernel_rfl
 · kernel_rfl
 · kernel_rfl
 · kernel_rfl
 · kernel_rfl
 · exact jf_plK
 · kernel_rfl
 · exact jf_stH
 · exact jf_mayE
 · exact jf_lif
 · exact jf_mke
 · kernel_rfl
 · kernel_rfl
 · kernel_rfl
 · kernel_rfl
theorem part_le {H : Type} {d : DataW H} : ∀ {l : List (DataW H)},d ∈ l → Rows.uptoBulk d ≤ Rows.uptoBulkAll l
 | x :: r,h=>by
   simp only [Rows.uptoBulkAll]
   cases List.mem_cons.1 h with
   | inl e=>subst e; omega
   | inr e=>have:=part_le e; omega
theorem one_le {H : Type} (d : DataW H) : 1 ≤ Rows.uptoBulk d := by
 cases d with
 | lit l=>cases l <;> simp [Rows.uptoBulk]
 | nil=>simp [Rows.uptoBulk]
 | ptr d=>simp [Rows.uptoBulk]
 | slice elems spare=>simp [Rows.uptoBulk]
 | agg parts=>simp [Rows.uptoBulk]
 | iface t d=>simp [Rows.uptoBulk]
 | map entries=>simp [Rows.uptoBulk]
 | held h=>simp [Rows.uptoBulk]
theorem length_le {H : Type} : ∀ l : List (DataW H),l.length ≤ Rows.uptoBulkAll l
 | []=>Nat.zero_le _
 | x :: r=>by have:=one_le x; have:=length_le r; simp only [Rows.uptoBulkAll,List.length_cons]; omega
def wit : Array Value := #[.agg #[.slice none 0 0], .slice none 0 0, .agg #[.int .i64 0, .int .i64 0, .int .i64 0, .int .u64 0, .int .i64 0, .int .u64 0, .int .i64 0, .int .i64 0, .int .i64 0, .int .u64 0, .slice none 0 0, .slice none 0 0, .slice none 0 0, .int .i64 0, .int .i64 0, .int .i64 0, .int .i64 0, .int .i64 0, .int .i64 0, .int .i64 0, .int .i64 0, .int .i64 0, .int .i64 0, .slice none 0 0, .slice none 0 0, .int .i64 0, .int .i64 0, .int .i64 0, .slice none 0 0, .slice none 0 0, .int .i64 0, .int .u64 0, .int .i64 0, .int .i64 0, .slice none 0 0, .slice none 0 0, .slice none 0 0, .int .i64 0, .int .i64 0, .int .i64 0, .slice none 0 0, .int .u64 0, .int .i64 0, .int .u64 0, .int .i64 0], .int .i64 0, .int .i64 0, .bool false]
theorem smD (H : Type) : SmD 1048576 (fun d : DataW H => Rows.uptoBulk d ≤ 1048576) where
 slice el sp h:=by
   simp only [Rows.uptoBulk] at h
   have:=length_le el
   exact ⟨by omega,fun d hd=>by have:=part_le hd; omega⟩
 agg l h:=by
   simp only [Rows.uptoBulk] at h
   exact fun d hd=>by have:=part_le hd; omega
set_option maxRecDepth 100000 in
theorem networkMoves_lifted (os : Os) (started : os.Started) (H : Type) (enc : TypeId × Value → H) (F : Stop.Interp) :
   ReturnsInHanded {} Tryz.checked os 3 .any ((Rows.OpenSpec.upto Rows.networkMovesSpec).pre6 enc Tryz.prog Tryz.f3 Rows.networkMovesUptoRow.domain false) (((Rows.OpenSpec.upto Rows.networkMovesSpec).at F).post enc Tryz.prog Tryz.f3 false true false false):=by
 have hwit : (DataW.whole enc Tryz.checked.prog (World.plainHolding Tryz.checked.prog os ⟨#[],wit,[]⟩).memory Tryz.f3.params.toList (Rows.OpenSpec.upto Rows.networkMovesSpec).vars false wit.toList 8).map (fun x=>Rows.uptoSmall H (x.1 ++ x.2.1)) = some true:=by kernel_rfl
 obtain ⟨x,hx,hxk⟩:=Option.map_eq_some_iff.1 hwit
 refine returnsInHanded_of_cond (C:=Tryz.checked) (s:=Rows.OpenSpec.upto Rows.networkMovesSpec) (k:=Rows.uptoSmall) rfl Tryz.own started (by kernel_rfl) Tryz.func3
   (OpenSpec.witness (enc:=enc) (C:=Tryz.checked) (s:=Rows.OpenSpec.upto Rows.networkMovesSpec) (k:=Rows.uptoSmall) rfl false ⟨#[],wit,[]⟩ 8 (by kernel_rfl) (by kernel_rfl) (by kernel_rfl)
     (x:=x) hx rfl hxk) ?_
 intro W base args ds gs before hval hW _ hk _
 obtain ⟨p,q,hA,_⟩:=id hW
 have hk : Rows.uptoBulkAll (ds ++ gs) ≤ 1048576:=of_decide_eq_true hk
 have hds : ∀ d ∈ ds,Rows.uptoBulk d ≤ 1048576:=fun d hd=>Nat.le_trans (part_le (List.mem_append_left gs hd)) hk
 obtain ⟨xs,hx,hr⟩:=TrodAll_rep_bd (n:=12) (smD H) _ _ _ _ (by rw [Tryz.params3]; exact List.all_eq_true.1 (by kernel_rfl)) (fun j t v h1 h2=>hval j t v (by simpa using h1) (by simpa using h2)) hA hds
 rw [Tryz.params3] at hx
 simp only [TyFs] at hx
 obtain ⟨_,_,rfl,⟨x0,rfl,hx0,hy0⟩,_,_,rfl,⟨x1,rfl,hx1,hy1⟩,_,_,rfl,⟨x2,rfl,hx2,hy2⟩,_,_,rfl,⟨x3,rfl,hx3,hy3⟩,_,_,rfl,⟨x4,rfl,hx4,hy4⟩,_,_,rfl,⟨x5,rfl,hx5,hy5⟩,rfl⟩:=hx
 obtain ⟨raw,rfl⟩:=shNet hx0 hy0
 obtain ⟨l,rfl⟩:=shSeeds hx1
 obtain ⟨m,rfl⟩:=shMsg hx2
 obtain ⟨a,rfl⟩:=shIntN hx3
 obtain ⟨b,rfl⟩:=shIntN hx4
 obtain ⟨c,rfl⟩:=shBoolN hx5
 exact law_calls (fn:=Tryz.f3) nmvS_ok Tryz.laidOut (by
     rw [Tryz.params3]
     intro t ht
     have h1 : ∀ t ∈ (Func.params Tryz.f3).toList,Tryz.prog.readableRec t = true:=List.all_eq_true.1 (by kernel_rfl)
     have h2 : ∀ t ∈ (Func.params Tryz.f3).toList,decide (t < Tryz.prog.types.size) = true:=List.all_eq_true.1 (by kernel_rfl)
     rw [Tryz.params3] at h1 h2
     exact ⟨h1 t ht,of_decide_eq_true (h2 t ht)⟩) rfl tu4 rfl (fun ds h=>by
   match ds,h with
   | [d0,d1,d2,d3,d4,d5],_=>rfl) hW hr (nmvS_eq raw l m a b c)
theorem networkMoves_holds : Rows.NetworkMovesUptoSaid :=
 OpenClaim.holds_of_cond 3 Tryz.f3 rfl rfl rfl rfl rfl rfl rfl ⟨rfl,rfl,rfl,rfl,rfl⟩ rfl rfl rfl rfl rfl (by kernel_rfl) Tryz.func3 jf_closed
   (of_decide_eq_true (by kernel_rfl)) (by unfold Func.isWrapper; first | (rw [if_pos (by decide +kernel)]; kernel_rfl) | (rw [if_neg (by decide +kernel)]; exact ⟨rfl,rfl⟩))
   (fun os started H enc _ F=>networkMoves_lifted os started H enc F)
end
end Go.Proofs.YtphclapfniepoaaGreat
