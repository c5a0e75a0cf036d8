/- Functions that are handed blocks and hand out new ones: from the walk to the contract. Conditions: none. -/
import Derived.Test.YtphclapfniepoaaAb6
namespace Go.Abs
open Go
section
def expB2 (exp : List Nat) (H : NL ABlk) (i : Nat) : Option ABlk :=
 match lk H i with
 | some b=>if b.kind = 0 then none else some (renB (expF exp H) 0 b)
 | none=>none
theorem export_envB {E0 E : Env} {B0 : List ABlk} (hE0 : E0.H = fun i => B0[i]?) (hB0 : ∀ b ∈ B0,b.gen = 0) {H : NL ABlk} (hH : E.H = lk H) (hr : HR E) (hs : Step E0 E) {exp : List Nat} (hnd : exp.Nodup)
   (hfirst : ∀ i,i < B0.length → exp[i]? = some i ∧ (lk H i).map (·.gen) = some 0) {B : List ABlk} (hB : exp.map (expB2 exp H) = B.map some) :
   ∃ E',E'.w = E.w ∧ E'.H = (fun i=>B[i]?) ∧ HR E' ∧ Step E0 E' ∧ RenOK (expF exp H) E E':=by
 have hlen : exp.length = B.length:=by have:=congrArg List.length hB; simpa using this
 have hget : ∀ (i : Nat) (b : ABlk),B[i]? = some b → ∃ (id : Nat) (b0 : ABlk),exp[i]? = some id ∧ lk H id = some b0 ∧ b0.kind ≠ 0 ∧ b = renB (expF exp H) 0 b0:=by
   intro i b hb
   have hi : i < exp.length:=by rw [hlen]; exact (List.getElem?_eq_some_iff.1 hb).1
   have h1 : (exp.map (expB2 exp H))[i]? = some (some b):=by rw [hB,List.getElem?_map,hb]; rfl
   rw [List.getElem?_map,List.getElem?_eq_getElem hi,Option.map_some,Option.some.injEq] at h1
   refine ⟨exp[i], ?_⟩
   unfold expB2 at h1
   split at h1
   · rename_i b0 hb0
     split at h1
     · cases h1
     · rename_i hc
       simp only [Option.some.injEq] at h1
       exact ⟨b0,List.getElem?_eq_getElem hi,hb0,hc,h1.symm⟩
   · cases h1
 let φ' : Nat → Nat:=fun i=>E.φ (exp.getD i 0)
 let cs' : Nat → Nat:=fun i=>E.cs (exp.getD i 0)
 have hφ : ∀ (i id : Nat),exp[i]? = some id → φ' i = E.φ id ∧ cs' i = E.cs id:=fun i id h=>by simp [φ',cs',List.getD_eq_getElem?_getD,h]
 have himm : ∀ b,E.imm b → (Env.mk E.w (fun i=>B[i]?) φ' cs' E.F).imm b:=by
   intro b hb
   refine ⟨hb.1,hb.2.1,fun i blk hbk hk hc he=>?_⟩
   obtain ⟨id,b0,h1,h2,h3,rfl⟩:=hget i blk hbk
   obtain ⟨e1,e2⟩:=hφ i id h1
   exact hb.2.2 id b0 (by rw [hH]; exact h2) hk (by simpa only [e2] using hc) (by simpa only [e1] using he)
 have hren : RenOK (expF exp H) E ⟨E.w,fun i=>B[i]?, φ',cs',E.F⟩:=by
   have key : ∀ i g i' g',expF exp H i g = some (i',g') → ∃ b0,lk H i = some b0 ∧ b0.gen = g ∧ g' = 0 ∧ exp[i']? = some i:=by
     intro i g i' g' he
     unfold expF at he
     split at he
     · rename_i k hk
       split at he
       · rename_i b0 hb0
         split at he
         · rename_i hg
           simp only [Option.some.injEq,Prod.mk.injEq] at he
           obtain ⟨rfl,rfl⟩:=he
           refine ⟨b0,hb0,hg,rfl, ?_⟩
           rw [List.idxOf?_eq_some_iff] at hk
           obtain ⟨h1,h2,_⟩:=hk
           rw [List.getElem?_eq_getElem h1]
           simpa using h2
         · cases he
       · cases he
     · cases he
   refine ⟨rfl,himm,fun i g i' g' he blk hb hg=>?_,fun i g i' g' he=>?_⟩
   · obtain ⟨b0,h1,h2,rfl,h4⟩:=key i g i' g' he
     rw [hH] at hb
     rw [h1] at hb; cases hb
     obtain ⟨e1,e2⟩:=hφ i' i h4
     have hk : i' < B.length:=by rw [← hlen]; exact (List.getElem?_eq_some_iff.1 h4).1
     obtain ⟨id,b1,k1,k2,k3,k4⟩:=hget i' _ (List.getElem?_eq_getElem hk)
     rw [h4] at k1; cases k1
     rw [h1] at k2; cases k2
     exact ⟨B[i'],List.getElem?_eq_getElem hk,by rw [k4]; rfl,by rw [k4]; rfl,by rw [k4]; rfl,e1,e2⟩
   · obtain ⟨b0,h1,h2,_⟩:=key i g i' g' he
     exact ⟨b0,by rw [hH]; exact h1,h2⟩
 refine ⟨⟨E.w,fun i=>B[i]?, φ',cs',E.F⟩,rfl,rfl,⟨fun i b hb=>?_,fun i j bi bj hi hj ki kj ci cj hne=>?_,fun i b hb hk hc=>?_,hr.fb⟩,⟨hs.size,hs.old,hs.fo,fun id blk h=>?_,fun i b hb hk hc=>?_,hs.kept⟩,hren⟩
 · obtain ⟨id,b0,h1,h2,h3,rfl⟩:=hget i b hb
   obtain ⟨e1,e2⟩:=hφ i id h1
   exact BlkOK.ren hren e1 e2 (hr.blk id b0 (by rw [hH]; exact h2))
 · obtain ⟨id1,b1,p1,p2,p3,rfl⟩:=hget i bi hi
   obtain ⟨id2,b2,q1,q2,q3,rfl⟩:=hget j bj hj
   obtain ⟨e1,e2⟩:=hφ i id1 p1
   obtain ⟨e3,e4⟩:=hφ j id2 q1
   simp only at ci cj ⊢
   rw [e1,e3]
   refine hr.inj id1 id2 b1 b2 (by rw [hH]; exact p2) (by rw [hH]; exact q2) p3 q3 (by rw [← e2]; exact ci) (by rw [← e4]; exact cj) (fun e=>hne ?_)
   subst e
   have hi':=(List.getElem?_eq_some_iff.1 p1).1
   exact (List.getElem?_inj hi' hnd).1 (by rw [p1,q1])
 · obtain ⟨id,b0,h1,h2,h3,rfl⟩:=hget i b hb
   obtain ⟨e1,e2⟩:=hφ i id h1
   simp only at hc ⊢
   rw [e1]
   exact hr.nf id b0 (by rw [hH]; exact h2) h3 (by rw [← e2]; exact hc)
 · -- a block that was handed over
   rw [hE0] at h
   simp only at h
   have hlt:=(List.getElem?_eq_some_iff.1 h).1
   obtain ⟨f1,f2⟩:=hfirst id hlt
   obtain ⟨b1,q1,q2,q3⟩:=hs.ref id blk (by rw [hE0]; exact h)
   have hg : b1.gen = 0:=by rw [hH] at q1; rw [q1] at f2; simpa using f2
   have hltB : id < B.length:=by rw [← hlen]; exact (List.getElem?_eq_some_iff.1 f1).1
   obtain ⟨id',b2,k1,k2,k3,k4⟩:=hget id _ (List.getElem?_eq_getElem hltB)
   rw [f1] at k1; cases k1
   rw [hH] at q1
   rw [q1] at k2; cases k2
   obtain ⟨e1,e2⟩:=hφ id id f1
   have hbg:=hB0 blk (List.mem_of_getElem? h)
   refine ⟨B[id],List.getElem?_eq_getElem hltB,by rw [hbg]; exact Nat.zero_le _,fun _ hk=>?_⟩
   obtain ⟨c1,c2,c3,c4,c5⟩:=q3 (by rw [hg,hbg]) hk
   rw [k4]
   exact ⟨c1,c2,c3,e1.trans c4,e2.trans c5⟩
 · obtain ⟨id,b0,h1,h2,h3,rfl⟩:=hget i b hb
   obtain ⟨e1,e2⟩:=hφ i id h1
   simp only at hc ⊢
   rw [e1]
   rcases hs.live id b0 (by rw [hH]; exact h2) hk (by rw [← e2]; exact hc) with ⟨id0,blk,hb0,k1,k2,k3,k4⟩ | hge
   · left
     have hb0':=hb0
     rw [hE0] at hb0'
     simp only at hb0'
     have hlt:=(List.getElem?_eq_some_iff.1 hb0').1
     obtain ⟨f1,f2⟩:=hfirst id0 hlt
     have hbg:=hB0 blk (List.mem_of_getElem? hb0')
     rcases k4 with rfl | ⟨b1,g1,g2⟩
     · have hi':=(List.getElem?_eq_some_iff.1 h1).1
       have : i = id0:=(List.getElem?_inj hi' hnd).1 (by rw [h1,f1])
       subst this
       exact ⟨i,blk,hb0,k1,k2,k3, .inl rfl⟩
     · rw [hH] at g1
       rw [g1] at f2
       simp only [Option.map_some,Option.some.injEq] at f2
       omega
   · exact .inr hge
def frqT (fz : Bool) (x : AV) : AP AV :=
 match fz,x with
 | false,x => .ret x
 | true, .tup cs=>frqVs cs fun cs' => .ret (.tup cs')
 | true,x=>frqV x fun x' => .ret x'
theorem frqT_run {E : Env} {H : NL ABlk} (hH : E.H = lk H) (hr : HR E) {fz : Bool} {x : AV} {v : Value} (hx : Rep E x v) {out : Out AV} (ho : (frqT fz x).run H = some out) :
   ∃ E',E'.w = E.w ∧ E'.H = lk out.H ∧ HR E' ∧ Step E E' ∧ Rep E' out.val v:=by
 have : SndW E H (frqT fz x) (PureAct v):=by
   have fin : ∀ (E1 : Env) (H1 : NL ABlk) (x' : AV),E1.H = lk H1 → HR E1 → Rep E1 x' v → SndW E1 H1 (.ret x') (PureAct v):=fun E1 H1 x' e2 e3 e5 out ho=>by
     simp only [AP.run,Option.some.injEq] at ho; subst ho
     exact ⟨trivial,E1,rfl,e2,e3,Step.refl _,e5⟩
   unfold frqT
   split
   · exact fin E H _ hH hr hx
   · simp only [Rep] at hx
     obtain ⟨cs,rfl,hc⟩:=hx
     refine frqVs_w hH hr hc fun E1 H1 cs' e1 e2 e3 e4 e5=>fin E1 H1 _ e2 e3 ?_
     simp only [Rep]
     exact ⟨cs,rfl,e5⟩
   · exact frqV_w hH hr hx fun E1 H1 x' e1 e2 e3 e4 e5=>fin E1 H1 _ e2 e3 e5
 obtain ⟨_,E',h1,h2,h3,h4,h5⟩:=this out ho
 exact ⟨E',h1,h2,h3,h4,h5⟩
def RetB (P : Program) (fn : Func) (k : Nat) (r : AV) (B : List ABlk) (σ : AS) : Prop :=
 ∃ xs,resVs P σ fn.results.toList = some xs ∧ ∃ fz out,(frqT fz (pack xs)).run σ.heap = some out ∧ ∃ exp : List Nat,exp.Nodup ∧ (∀ i,i < k → exp[i]? = some i ∧ (lk out.H i).map (·.gen) = some 0) ∧
   exp.map (expB2 exp out.H) = B.map some ∧ r = out.val.ren (expF exp out.H)
theorem RetB.mk {P : Program} {fn : Func} {k : Nat} {r : AV} {B : List ABlk} {σ : AS} {rs : List ResultVar} {xs : List AV} (fz : Bool) (exp : List Nat) {v : AV} {H : NL ABlk} {rd wr : List Nat} {A : Prop} (h0 : fn.results.toList = rs) (h1 : resVs P σ rs = some xs)
   (h2 : (frqT fz (pack xs)).run σ.heap = some ⟨v,H,rd,wr,A⟩) (h3 : exp.Nodup) (h4 : ∀ i,i < k → exp[i]? = some i ∧ (lk H i).map (·.gen) = some 0) (h5 : exp.map (expB2 exp H) = B.map some) (h6 : v.ren (expF exp H) = r) : RetB P fn k r B σ :=
 ⟨xs,by rw [h0]; exact h1,fz,_,h2,exp,h3,h4,h5,h6.symm⟩
def init2 (fn : Func) (args : List AV) (B : List ABlk) : AS := { n := args.length + (fn.ntmps - args.length),tmps := num 0 args,heap := num 0 B }
open Classical in
noncomputable def mkS2 {α : Type} (enc : α → List AV × List ABlk) (res : α → AV × List ABlk) : SpecFn := fun args B =>
 if h : ∃ x,enc x = (args,B) then some (res h.choose) else none
theorem mkS2_eq {α : Type} {enc : α → List AV × List ABlk} {res : α → AV × List ABlk} (inj : ∀ x y,enc x = enc y → res x = res y) (x : α) : mkS2 enc res (enc x).1 (enc x).2 = some (res x) := by
 unfold mkS2
 have h : ∃ y,enc y = ((enc x).1,(enc x).2):=⟨x,rfl⟩
 rw [dif_pos h,inj _ _ h.choose_spec]
theorem FnC.walkB {P : Program} {α : Type} {enc : α → List AV × List ABlk} {res : α → AV × List ABlk} (f : FuncId) {fn : Func} (hf : P.funcs[f]? = some fn) (hb : fn.body = some (codeOf fn)) (hname : (fn.name == "runtime.NumGoroutine") = false)
   (hg : ∀ x, ∀ b ∈ (enc x).2,b.gen = 0) (h : ∀ x,W P (RetB P fn (enc x).2.length (res x).1 (res x).2) (codeOf fn) [] (init2 fn (enc x).1 (enc x).2)) : FnC P f (mkS2 enc res):=by
 refine ⟨⟨fn,hf,hname,by simp [hb]⟩,fun args B r B' hS E vs hH hr hx=>?_⟩
 unfold mkS2 at hS
 split at hS
 · rename_i hex
   simp only [Option.some.injEq] at hS
   have hw:=h hex.choose
   have hg':=hg hex.choose
   rw [hex.choose_spec,hS] at hw
   rw [hex.choose_spec] at hg'
   simp only at hw hg'
   have hsz : vs.size = args.length:=by have:=hx.length; simpa using this
   have hsr : SR (init2 fn args B) { tmps:=vs ++ Array.replicate (fn.ntmps - vs.size) undef,defers:=[] } E:=by
     refine ⟨by rw [hH]; funext i; simp [init2,lk_num],hr,rfl,by simp [init2,hsz],fun t x ht=>?_⟩
     simp only [init2,lk_num,Nat.zero_le,if_true,Nat.sub_zero] at ht
     obtain ⟨v,hv,hxv⟩:=hx.get ht
     refine ⟨v, ?_,hxv⟩
     have hlt : t < vs.size:=by rw [hsz]; exact (List.getElem?_eq_some_iff.1 ht).1
     rw [Array.getElem?_append_left hlt]
     simpa using hv
   refine calls_of_wp hf hb (wp_mono (hw.h.run hsr) fun e a' w' hp=>?_)
   obtain ⟨σ',E1,rfl,h1,h2,he,xs,hxs,fz,out,ho,exp,q1,q2,q3,rfl⟩:=hp
   obtain ⟨v,g1,g2⟩:=resVs_run h1 hxs
   obtain ⟨E2,k1,k2,k3,k4,k5⟩:=frqT_run h1.heap h1.hr g2 ho
   obtain ⟨E3,m1,m2,m3,m4,m5⟩:=export_envB hH hg' k2 k3 (h2.trans k4) q1 q2 q3
   have hfinal : bodyPost P fn (fun e w' => ∃ v E',e = .returned v ∧ E'.w = w' ∧ E'.H = (fun i=>B'[i]?) ∧ HR E' ∧ Step E E' ∧ Rep E' (out.val.ren (expF exp out.H)) v) .ret a' E1.w :=
     ⟨h1.defers,v,g1,v,E3,rfl,m1.trans k1,m2,m3,m4,ren_rep m5 _ _ k5⟩
   rcases he with rfl | rfl
   · exact hfinal
   · exact hfinal
 · cases hS
end
end Go.Abs
namespace Go.Abs
open Go
set_option linter.unusedSimpArgs false
set_option linter.unusedVariables false
section
def expG (exp gs : List Nat) (H : NL ABlk) (i g : Nat) : Option (Nat × Nat) :=
 match exp.idxOf? i with
 | some k=>match lk H i with
   | some b=>if b.gen = g then some (k,gs.getD k 0) else none
   | none=>none
 | none=>none
def expB3 (exp gs : List Nat) (H : NL ABlk) (i g : Nat) : Option ABlk :=
 match lk H i with
 | some b=>if b.kind = 0 then none else some (renB (expG exp gs H) g b)
 | none=>none
theorem export_envM {E0 E : Env} {B0 : List ABlk} (hE0 : E0.H = fun i => B0[i]?) (hB0 : ∀ b ∈ B0,b.gen = 0) {H : NL ABlk} (hH : E.H = lk H) (hr : HR E) (hs : Step E0 E) {exp gs : List Nat} (hnd : exp.Nodup) (hgl : gs.length = exp.length)
   (hfirst : ∀ i,i < B0.length → gs[i]? = some 0 ∧ exp[i]? = some i ∧ (lk H i).map (·.gen) = some 0 ∨ gs[i]? = some 1)
   (hold : ∀ i id,exp[i]? = some id → id < B0.length → i = id) {B : List ABlk} (hB : exp.zipWith (expB3 exp gs H) gs = B.map some) :
   ∃ E',E'.w = E.w ∧ E'.H = (fun i=>B[i]?) ∧ HR E' ∧ Step E0 E' ∧ RenOK (expG exp gs H) E E':=by
 have hlen : exp.length = B.length:=by have:=congrArg List.length hB; simpa [hgl] using this
 have hget : ∀ (i : Nat) (b : ABlk),B[i]? = some b → ∃ (id : Nat) (b0 : ABlk),exp[i]? = some id ∧ lk H id = some b0 ∧ b0.kind ≠ 0 ∧ b = renB (expG exp gs H) (gs.getD i 0) b0:=by
   intro i b hb
   have hi : i < exp.length:=by rw [hlen]; exact (List.getElem?_eq_some_iff.1 hb).1
   have hi' : i < gs.length:=by omega
   have h1 : (exp.zipWith (expB3 exp gs H) gs)[i]? = some (some b):=by rw [hB,List.getElem?_map,hb]; rfl
   rw [List.getElem?_zipWith,List.getElem?_eq_getElem hi,List.getElem?_eq_getElem hi'] at h1
   simp only [Option.some.injEq] at h1
   have hgd : gs.getD i 0 = gs[i]:=by simp [List.getD_eq_getElem?_getD,hi']
   refine ⟨exp[i], ?_⟩
   rw [hgd]
   unfold expB3 at h1
   split at h1
   · rename_i b0 hb0
     split at h1
     · cases h1
     · rename_i hc
       simp only [Option.some.injEq] at h1
       exact ⟨b0,List.getElem?_eq_getElem hi,hb0,hc,h1.symm⟩
   · cases h1
 let φ' : Nat → Nat:=fun i=>E.φ (exp.getD i 0)
 let cs' : Nat → Nat:=fun i=>E.cs (exp.getD i 0)
 have hφ : ∀ (i id : Nat),exp[i]? = some id → φ' i = E.φ id ∧ cs' i = E.cs id:=fun i id h=>by simp [φ',cs',List.getD_eq_getElem?_getD,h]
 have himm : ∀ b,E.imm b → (Env.mk E.w (fun i=>B[i]?) φ' cs' E.F).imm b:=by
   intro b hb
   refine ⟨hb.1,hb.2.1,fun i blk hbk hk hc he=>?_⟩
   obtain ⟨id,b0,h1,h2,h3,rfl⟩:=hget i blk hbk
   obtain ⟨e1,e2⟩:=hφ i id h1
   exact hb.2.2 id b0 (by rw [hH]; exact h2) hk (by simpa only [e2] using hc) (by simpa only [e1] using he)
 have hren : RenOK (expG exp gs H) E ⟨E.w,fun i=>B[i]?, φ',cs',E.F⟩:=by
   have key : ∀ i g i' g',expG exp gs H i g = some (i',g') → ∃ b0,lk H i = some b0 ∧ b0.gen = g ∧ g' = gs.getD i' 0 ∧ exp[i']? = some i:=by
     intro i g i' g' he
     unfold expG at he
     split at he
     · rename_i k hk
       split at he
       · rename_i b0 hb0
         split at he
         · rename_i hg
           simp only [Option.some.injEq,Prod.mk.injEq] at he
           obtain ⟨rfl,rfl⟩:=he
           refine ⟨b0,hb0,hg,rfl, ?_⟩
           rw [List.idxOf?_eq_some_iff] at hk
           obtain ⟨h1,h2,_⟩:=hk
           rw [List.getElem?_eq_getElem h1]
           simpa using h2
         · cases he
       · cases he
     · cases he
   refine ⟨rfl,himm,fun i g i' g' he blk hb hg=>?_,fun i g i' g' he=>?_⟩
   · obtain ⟨b0,h1,h2,rfl,h4⟩:=key i g i' g' he
     rw [hH] at hb
     rw [h1] at hb; cases hb
     obtain ⟨e1,e2⟩:=hφ i' i h4
     have hk : i' < B.length:=by rw [← hlen]; exact (List.getElem?_eq_some_iff.1 h4).1
     obtain ⟨id,b1,k1,k2,k3,k4⟩:=hget i' _ (List.getElem?_eq_getElem hk)
     rw [h4] at k1; cases k1
     rw [h1] at k2; cases k2
     exact ⟨B[i'],List.getElem?_eq_getElem hk,by rw [k4]; rfl,by rw [k4]; rfl,by rw [k4]; rfl,e1,e2⟩
   · obtain ⟨b0,h1,h2,_⟩:=key i g i' g' he
     exact ⟨b0,by rw [hH]; exact h1,h2⟩
 refine ⟨⟨E.w,fun i=>B[i]?, φ',cs',E.F⟩,rfl,rfl,⟨fun i b hb=>?_,fun i j bi bj hi hj ki kj ci cj hne=>?_,fun i b hb hk hc=>?_,hr.fb⟩,⟨hs.size,hs.old,hs.fo,fun id blk h=>?_,fun i b hb hk hc=>?_,hs.kept⟩,hren⟩
 · obtain ⟨id,b0,h1,h2,h3,rfl⟩:=hget i b hb
   obtain ⟨e1,e2⟩:=hφ i id h1
   exact BlkOK.ren hren e1 e2 (hr.blk id b0 (by rw [hH]; exact h2))
 · obtain ⟨id1,b1,p1,p2,p3,rfl⟩:=hget i bi hi
   obtain ⟨id2,b2,q1,q2,q3,rfl⟩:=hget j bj hj
   obtain ⟨e1,e2⟩:=hφ i id1 p1
   obtain ⟨e3,e4⟩:=hφ j id2 q1
   simp only at ci cj ⊢
   rw [e1,e3]
   refine hr.inj id1 id2 b1 b2 (by rw [hH]; exact p2) (by rw [hH]; exact q2) p3 q3 (by rw [← e2]; exact ci) (by rw [← e4]; exact cj) (fun e=>hne ?_)
   subst e
   have hi':=(List.getElem?_eq_some_iff.1 p1).1
   exact (List.getElem?_inj hi' hnd).1 (by rw [p1,q1])
 · obtain ⟨id,b0,h1,h2,h3,rfl⟩:=hget i b hb
   obtain ⟨e1,e2⟩:=hφ i id h1
   simp only at hc ⊢
   rw [e1]
   exact hr.nf id b0 (by rw [hH]; exact h2) h3 (by rw [← e2]; exact hc)
 · -- a block that was handed over
   rw [hE0] at h
   simp only at h
   have hlt:=(List.getElem?_eq_some_iff.1 h).1
   have hbg:=hB0 blk (List.mem_of_getElem? h)
   rcases hfirst id hlt with ⟨f0,f1,f2⟩ | f0
   · obtain ⟨b1,q1,q2,q3⟩:=hs.ref id blk (by rw [hE0]; exact h)
     have hg : b1.gen = 0:=by rw [hH] at q1; rw [q1] at f2; simpa using f2
     have hltB : id < B.length:=by rw [← hlen]; exact (List.getElem?_eq_some_iff.1 f1).1
     obtain ⟨id',b2,k1,k2,k3,k4⟩:=hget id _ (List.getElem?_eq_getElem hltB)
     rw [f1] at k1; cases k1
     rw [hH] at q1
     rw [q1] at k2; cases k2
     obtain ⟨e1,e2⟩:=hφ id id f1
     refine ⟨B[id],List.getElem?_eq_getElem hltB,by rw [hbg]; exact Nat.zero_le _,fun _ hk=>?_⟩
     obtain ⟨c1,c2,c3,c4,c5⟩:=q3 (by rw [hg,hbg]) hk
     rw [k4]
     exact ⟨c1,c2,c3,e1.trans c4,e2.trans c5⟩
   · have hltB : id < B.length:=by rw [← hlen, ← hgl]; exact (List.getElem?_eq_some_iff.1 f0).1
     obtain ⟨id',b2,k1,k2,k3,k4⟩:=hget id _ (List.getElem?_eq_getElem hltB)
     refine ⟨B[id],List.getElem?_eq_getElem hltB,by rw [hbg]; exact Nat.zero_le _,fun he _=>?_⟩
     rw [k4,hbg] at he
     simp only [renB,List.getD_eq_getElem?_getD,f0,Option.getD_some] at he
     cases he
 · obtain ⟨id,b0,h1,h2,h3,rfl⟩:=hget i b hb
   obtain ⟨e1,e2⟩:=hφ i id h1
   simp only at hc ⊢
   rw [e1]
   rcases hs.live id b0 (by rw [hH]; exact h2) hk (by rw [← e2]; exact hc) with ⟨id0,blk,hb0,k1,k2,k3,k4⟩ | hge
   · left
     have hb0':=hb0
     rw [hE0] at hb0'
     simp only at hb0'
     have hlt:=(List.getElem?_eq_some_iff.1 hb0').1
     have hbg:=hB0 blk (List.mem_of_getElem? hb0')
     refine ⟨id0,blk,hb0,k1,k2,k3, ?_⟩
     rcases k4 with rfl | ⟨b1,g1,g2⟩
     · exact .inl (hold i id0 h1 hlt).symm
     · rcases hfirst id0 hlt with ⟨f0,f1,f2⟩ | f0
       · rw [hH] at g1
         rw [g1] at f2
         simp only [Option.map_some,Option.some.injEq] at f2
         omega
       · right
         have hltB : id0 < B.length:=by rw [← hlen, ← hgl]; exact (List.getElem?_eq_some_iff.1 f0).1
         obtain ⟨id',b2,q1,q2,q3,q4⟩:=hget id0 _ (List.getElem?_eq_getElem hltB)
         refine ⟨B[id0],List.getElem?_eq_getElem hltB, ?_⟩
         rw [q4,hbg]
         simp only [renB,List.getD_eq_getElem?_getD,f0,Option.getD_some]
         decide
   · exact .inr hge
def RetM (P : Program) (fn : Func) (k : Nat) (r : AV) (B : List ABlk) (σ : AS) : Prop :=
 ∃ xs,resVs P σ fn.results.toList = some xs ∧ ∃ fz out,(frqT fz (pack xs)).run σ.heap = some out ∧ ∃ exp gs : List Nat,exp.Nodup ∧ gs.length = exp.length ∧
   (∀ i,i < k → gs[i]? = some 0 ∧ exp[i]? = some i ∧ (lk out.H i).map (·.gen) = some 0 ∨ gs[i]? = some 1) ∧ (∀ i id,exp[i]? = some id → id < k → i = id) ∧
   exp.zipWith (expB3 exp gs out.H) gs = B.map some ∧ r = out.val.ren (expG exp gs out.H)
theorem RetM.mk {P : Program} {fn : Func} {k : Nat} {r : AV} {B : List ABlk} {σ : AS} {rs : List ResultVar} {xs : List AV} (fz : Bool) (exp gs : List Nat) {v : AV} {H : NL ABlk} {rd wr : List Nat} {A : Prop} (h0 : fn.results.toList = rs) (h1 : resVs P σ rs = some xs)
   (h2 : (frqT fz (pack xs)).run σ.heap = some ⟨v,H,rd,wr,A⟩) (h3 : exp.Nodup) (h3' : gs.length = exp.length) (h4 : ∀ i,i < k → gs[i]? = some 0 ∧ exp[i]? = some i ∧ (lk H i).map (·.gen) = some 0 ∨ gs[i]? = some 1)
   (h4' : ∀ i id,exp[i]? = some id → id < k → i = id) (h5 : exp.zipWith (expB3 exp gs H) gs = B.map some) (h6 : v.ren (expG exp gs H) = r) : RetM P fn k r B σ :=
 ⟨xs,by rw [h0]; exact h1,fz,_,h2,exp,gs,h3,h3',h4,h4',h5,h6.symm⟩
def movedOK (k : Nat) (exp gs : List Nat) (H : NL ABlk) : Bool := (List.range k).all fun i => (gs[i]? == some 0 && exp[i]? == some i && (lk H i).map (·.gen) == some 0) || gs[i]? == some 1
def oldOK (k : Nat) : Nat → List Nat → Bool
 | _,[]=>true
 | i,id :: r=>(decide (k ≤ id) || id == i) && oldOK k (i + 1) r
theorem oldOK_get (k : Nat) : ∀ (l : List Nat) (n : Nat),oldOK k n l = true → ∀ i id,l[i]? = some id → id < k → n + i = id
 | [],_,_,i,id,h,_=>by simp at h
 | x :: r,n,ho,i,id,h,hk=>by
   simp only [oldOK,Bool.and_eq_true,Bool.or_eq_true,decide_eq_true_eq,beq_iff_eq] at ho
   cases i with
   | zero =>
     simp only [List.getElem?_cons_zero,Option.some.injEq] at h
     omega
   | succ i =>
     have:=oldOK_get k r (n + 1) ho.2 i id (by simpa using h) hk
     omega
def retM2 (P : Program) (fn : Func) (k : Nat) (fz : Bool) (exp gs : List Nat) (σ : AS) : Option (AV × List (Option ABlk)) :=
 match resVs P σ fn.results.toList with
 | some xs=>match (frqT fz (pack xs)).run σ.heap with
   | some out=>if decide exp.Nodup && gs.length == exp.length && movedOK k exp gs out.H && oldOK k 0 exp then some (out.val.ren (expG exp gs out.H),exp.zipWith (expB3 exp gs out.H) gs) else none
   | none=>none
 | none=>none
theorem retM2_ok {P : Program} {fn : Func} {k : Nat} {r : AV} {B : List ABlk} {σ : AS} (fz : Bool) (exp gs : List Nat) (h : retM2 P fn k fz exp gs σ = some (r,B.map some)) : RetM P fn k r B σ := by
 unfold retM2 at h
 split at h
 · rename_i xs hxs
   split at h
   · rename_i out ho
     split at h
     · rename_i hc
       simp only [Bool.and_eq_true,decide_eq_true_eq,beq_iff_eq] at hc
       obtain ⟨⟨⟨c1,c2⟩,c3⟩,c4⟩:=hc
       simp only [Option.some.injEq,Prod.mk.injEq] at h
       refine ⟨xs,hxs,fz,out,ho,exp,gs,c1,c2,fun i hi=>?_,fun i id he hid=>?_,h.2,h.1.symm⟩
       · have:=List.all_eq_true.1 c3 i (List.mem_range.2 hi)
         simpa [and_assoc] using this
       · have:=oldOK_get k exp 0 c4 i id he hid
         omega
     · cases h
   · cases h
 · cases h
end
end Go.Abs
namespace Go.Abs
open Go
section
def seqO {α : Type} : List (Option α) → Option (List α)
 | []=>some []
 | some x :: r=>match seqO r with
   | some l=>some (x :: l)
   | none=>none
 | none :: _=>none
def reachE (H : NL ABlk) : Nat → List Nat → List Nat → List Nat
 | _,[],acc=>acc
 | 0,_,acc=>acc
 | n + 1,i :: r,acc=>if acc.contains i then reachE H n r acc else match lk H i with
   | some b=>if b.kind = 0 then reachE H n r acc else reachE H n (r ++ refsB b) (acc ++ [i])
   | none=>reachE H n r acc
def blkRefs (H : NL ABlk) (i : Nat) : List Nat := match lk H i with
 | some b=>refsB b
 | none=>[]
def nodupE : List Nat → Bool
 | []=>true
 | x :: r => !r.contains x && nodupE r
def firstE (H : NL ABlk) (exp : List Nat) : Nat → Bool
 | 0=>true
 | k + 1=>(match exp[k]?,lk H k with
   | some i,some b=>i == k && b.gen == 0
   | _,_=>false) && firstE H exp k
def outE (H : NL ABlk) (k : Nat) (v : AV) (exp : List Nat) : Option (AV × List ABlk) :=
 if nodupE exp && firstE H exp k then match seqO (exp.map (expB2 exp H)) with
   | some B=>some (v.ren (expF exp H),B)
   | none=>none
 else none
def nzV (H : NL ABlk) (x : AV) : AV := match x with
 | .sl id g off len=>match lk H id with
   | some b=>if b.gen = g ∧ b.kind = 1 ∧ b.inl = true ∧ off + len ≤ b.rows.length then .list b.size ((b.rows.drop off).take len) else .sl id g off len
   | none => .sl id g off len
 | x=>x
theorem nzV_rep {E : Env} {H : NL ABlk} (hH : E.H = lk H) (hr : HR E) {x : AV} {v : Value} (hx : Rep E x v) : Rep E (nzV H x) v := by
 unfold nzV
 split
 · rename_i id g off len
   split
   · rename_i b hb
     split
     · rename_i hc
       obtain ⟨g1,g2,g3,g4⟩:=hc
       have hx':=hx
       simp only [Rep] at hx'
       obtain ⟨blk,oa,len',cap,hb',hle,rfl,hg⟩:=hx'
       rw [hH,hb] at hb'; cases hb'
       obtain ⟨hk,rfl,h1,h2,h3⟩:=hg g1
       exact RepI.rep _ _ (slice_inl hr (by rw [hH]; exact hb) g2 g3 g4 h1 h2 h3)
     · exact hx
   · exact hx
 · exact hx
theorem nzL_rep {E : Env} {H : NL ABlk} (hH : E.H = lk H) (hr : HR E) : ∀ {xs : List AV} {vs : List Value},RepL E xs vs → RepL E (xs.map (nzV H)) vs
 | [],_,h=>h
 | x :: r,vs,h=>by
   simp only [RepL,List.map_cons] at h ⊢
   obtain ⟨v,vs',hv,h1,h2⟩:=h
   exact ⟨v,vs',hv,nzV_rep hH hr h1,nzL_rep hH hr h2⟩
def nzA (H : NL ABlk) (x : AV) : AV := match x with
 | .agg cs => .agg (cs.map (nzV H))
 | x=>nzV H x
theorem nzA_rep {E : Env} {H : NL ABlk} (hH : E.H = lk H) (hr : HR E) {x : AV} {v : Value} (hx : Rep E x v) : Rep E (nzA H x) v := by
 unfold nzA
 split
 · simp only [Rep] at hx ⊢
   obtain ⟨cs,hv,h1⟩:=hx
   exact ⟨cs,hv,nzL_rep hH hr h1⟩
 · exact nzV_rep hH hr hx
theorem nzAL_rep {E : Env} {H : NL ABlk} (hH : E.H = lk H) (hr : HR E) : ∀ {xs : List AV} {vs : List Value},RepL E xs vs → RepL E (xs.map (nzA H)) vs
 | [],_,h=>h
 | x :: r,vs,h=>by
   simp only [RepL,List.map_cons] at h ⊢
   obtain ⟨v,vs',hv,h1,h2⟩:=h
   exact ⟨v,vs',hv,nzA_rep hH hr h1,nzAL_rep hH hr h2⟩
def nzT (H : NL ABlk) (x : AV) : AV := match x with
 | .tup cs => .tup (cs.map (nzA H))
 | x=>nzA H x
theorem nzT_rep {E : Env} {H : NL ABlk} (hH : E.H = lk H) (hr : HR E) {x : AV} {v : Value} (hx : Rep E x v) : Rep E (nzT H x) v := by
 unfold nzT
 split
 · simp only [Rep] at hx ⊢
   obtain ⟨cs,hv,h1⟩:=hx
   exact ⟨cs,hv,nzAL_rep hH hr h1⟩
 · exact nzA_rep hH hr hx
def retE2 (P : Program) (fn : Func) (k : Nat) (fz : Bool) (σ : AS) : Option (AV × List ABlk) :=
 match resVs P σ fn.results.toList with
 | some xs=>match (frqT fz (pack xs)).run σ.heap with
   | some out=>outE out.H k out.val (reachE out.H 200 (((List.range k).flatMap (blkRefs out.H)) ++ out.val.refs) (List.range k))
   | none=>none
 | none=>none
end
end Go.Abs
namespace Go.Abs
open Go
set_option linter.unusedSimpArgs false
set_option linter.unusedVariables false
section
def thn {α β : Type} (o : Out α) (r : Option (Out β)) : Option (Out β) := match r with
 | some q=>some ⟨q.val,q.H,o.rd ++ q.rd,o.wr ++ q.wr,o.as ∧ q.as⟩
 | none=>none
@[simp] theorem thn_some {α β : Type} (o : Out α) (q : Out β) : thn o (some q) = some ⟨q.val,q.H,o.rd ++ q.rd,o.wr ++ q.wr,o.as ∧ q.as⟩ := rfl
@[simp] theorem thn_none {α β : Type} (o : Out α) : thn o (none : Option (Out β)) = none := rfl
@[simp] theorem thn_nil {α β : Type} (v : α) (H : NL ABlk) (r : Option (Out β)) : thn ⟨v,H,[],[],True⟩ r = r := by
 cases r <;> simp [thn]
theorem run_bind {α β : Type} : ∀ (p : AP α) (f : α → AP β) (H : NL ABlk),(p.bind f).run H = match p.run H with
   | some o=>thn o ((f o.val).run o.H)
   | none=>none
 | .ret a,f,H=>by simp [AP.bind,AP.run]
 | .fail,f,H=>by simp [AP.bind,AP.run]
 | .get id k,f,H=>by
   simp only [AP.bind,AP.run]
   split
   · rw [run_bind (k {}) f H]
     cases (k {}).run H with
     | none=>rfl
     | some o=>simp only [thn]; cases (f o.val).run o.H <;> simp
   · rename_i b _
     rw [run_bind (k b) f H]
     cases (k b).run H with
     | none=>rfl
     | some o=>simp only [thn]; cases (f o.val).run o.H <;> simp
 | .put id b k,f,H=>by
   simp only [AP.bind,AP.run]
   rw [run_bind k f]
   cases k.run (st H id b) with
   | none=>rfl
   | some o=>simp only [thn]; cases (f o.val).run o.H <;> simp
 | .asm p k,f,H=>by
   simp only [AP.bind,AP.run]
   rw [run_bind k f]
   cases k.run H with
   | none=>rfl
   | some o=>simp only [thn]; cases (f o.val).run o.H <;> simp [and_assoc]
def nxt {α β : Type} (o : Option (Out α)) (f : α → NL ABlk → Option (Out β)) : Option (Out β) := match o with
 | some o=>thn o (f o.val o.H)
 | none=>none
theorem run_bindN {α β : Type} (p : AP α) (f : α → AP β) (H : NL ABlk) : (p.bind f).run H = nxt (p.run H) fun x H => (f x).run H := run_bind p f H
theorem nxt_assoc {α β γ : Type} (o : Option (Out α)) (f : α → NL ABlk → Option (Out β)) (g : β → NL ABlk → Option (Out γ)) : nxt (nxt o f) g = nxt o fun x H => nxt (f x H) g := by
 cases o with
 | none=>rfl
 | some o =>
   simp only [nxt]
   cases f o.val o.H with
   | none=>rfl
   | some q =>
     simp only [nxt,thn]
     cases g q.val q.H <;> simp [and_assoc]
theorem nxt_some {α β : Type} (v : α) (H : NL ABlk) (f : α → NL ABlk → Option (Out β)) : nxt (some ⟨v,H,[],[],True⟩) f = f v H := by simp [nxt]
def frz0 (x : AV) : AP AV := frz1 x .ret
theorem frz1_bind (x : AV) (k : AV → AP AV) : frz1 x k = (frz0 x).bind k := by
 unfold frz0 frz1
 split
 · simp only [AP.bind]
   congr 1; funext b
   split
   · split
     · rfl
     · split <;> rfl
   · rfl
 · split <;> rfl
def brw0 (x : AV) : AP AV := brw1 x .ret
theorem brw1_bind (x : AV) (k : AV → AP AV) : brw1 x k = (brw0 x).bind k := by
 unfold brw0 brw1
 split
 · simp only [AP.bind]
   congr 1; funext b
   split <;> rfl
 · split <;> rfl
def frz0R (x : AV) (H : NL ABlk) : Option (Out AV) := (frz0 x).run H
def brw0R (x : AV) (H : NL ABlk) : Option (Out AV) := (brw0 x).run H
theorem frz0R_inl {x : AV} (h : x.isInl = true) (H : NL ABlk) : frz0R x H = some ⟨x,H,[],[],True⟩ := by
 unfold frz0R frz0
 rw [show frz1 x AP.ret = AP.ret x from ?_]
 · rfl
 · unfold frz1
   split
   · simp [AV.isInl] at h
   · rw [if_pos h]
theorem brw0R_inl {x : AV} (h : x.isInl = true) (H : NL ABlk) : brw0R x H = some ⟨x,H,[],[],True⟩ := by
 unfold brw0R brw0
 rw [show brw1 x AP.ret = AP.ret x from ?_]
 · rfl
 · unfold brw1
   split
   · simp [AV.isInl] at h
   · rw [if_pos h]
theorem frz0R_sl (id g off len : Nat) (H : NL ABlk) : frz0R (.sl id g off len) H = match lk H id with
   | some b=>if b.gen = g ∧ b.inl = true ∧ off + len ≤ b.rows.length then
       if b.kind = 2 then some ⟨.list b.size ((b.rows.drop off).take len),st H id { b with kind:=1 },[id],[id],True⟩
       else if b.kind = 1 then some ⟨.list b.size ((b.rows.drop off).take len),H,[id],[],True⟩ else none
     else none
   | none=>none:=by
 simp only [frz0R,frz0,frz1,AP.run]
 cases lk H id with
 | none=>simp [AP.run]
 | some b =>
   dsimp only
   by_cases h1 : b.gen = g ∧ b.inl = true ∧ off + len ≤ b.rows.length
   · simp only [if_pos h1]
     by_cases h2 : b.kind = 2
     · simp [h2,AP.run]
     · by_cases h3 : b.kind = 1
       · simp [h3,AP.run]
       · simp [h2,h3,AP.run]
   · simp only [if_neg h1,AP.run]
theorem brw0R_sl (id g off len : Nat) (H : NL ABlk) : brw0R (.sl id g off len) H = match lk H id with
   | some b=>if b.gen = g ∧ b.inl = true ∧ off + len ≤ b.rows.length ∧ (b.kind = 1 ∨ b.kind = 2) then some ⟨.list b.size ((b.rows.drop off).take len),H,[id],[],True⟩ else none
   | none=>none:=by
 simp only [brw0R,brw0,brw1,AP.run]
 cases lk H id with
 | none=>simp [AP.run]
 | some b =>
   dsimp only
   by_cases h1 : b.gen = g ∧ b.inl = true ∧ off + len ≤ b.rows.length ∧ (b.kind = 1 ∨ b.kind = 2)
   · simp only [if_pos h1,AP.run]
   · simp only [if_neg h1,AP.run]
def listR (q : AV → NL ABlk → Option (Out AV)) : List AV → NL ABlk → Option (Out (List AV))
 | [],H=>some ⟨[],H,[],[],True⟩
 | x :: r,H=>nxt (q x H) fun x' H'=>nxt (listR q r H') fun r' H''=>some ⟨x' :: r',H'',[],[],True⟩
def mapO {α β : Type} (f : α → β) (o : Option (Out α)) : Option (Out β) := match o with
 | some o=>some ⟨f o.val,o.H,o.rd,o.wr,o.as⟩
 | none=>none
theorem nxt_ret {α β : Type} (o : Option (Out α)) (f : α → β) : nxt o (fun x H => some ⟨f x,H,[],[],True⟩) = mapO f o := by
 cases o <;> simp [nxt,thn,mapO]
theorem frzL_run : ∀ (l : List AV) (k : List AV → AP AV) (H : NL ABlk),(frzL l k).run H = nxt (listR frz0R l H) fun x H => (k x).run H
 | [],k,H=>by simp [frzL,listR,nxt]
 | x :: r,k,H=>by
   simp only [frzL,listR,nxt_assoc,nxt_some]
   rw [frz1_bind,run_bindN]
   show nxt (frz0R x H) _ = _
   congr 1; funext x' H'
   rw [frzL_run r]
theorem brwL_run : ∀ (l : List AV) (k : List AV → AP AV) (H : NL ABlk),(brwL l k).run H = nxt (listR brw0R l H) fun x H => (k x).run H
 | [],k,H=>by simp [brwL,listR,nxt]
 | x :: r,k,H=>by
   simp only [brwL,listR,nxt_assoc,nxt_some]
   rw [brw1_bind,run_bindN]
   show nxt (brw0R x H) _ = _
   congr 1; funext x' H'
   rw [brwL_run r]
theorem nxt_map {α β γ : Type} (o : Option (Out α)) (f : α → β) (k : β → NL ABlk → Option (Out γ)) : nxt (mapO f o) k = nxt o fun x H => k (f x) H := by
 cases o <;> rfl
def valR (q : AV → NL ABlk → Option (Out AV)) (x : AV) (H : NL ABlk) : Option (Out AV) := match x with
 | .agg cs=>mapO AV.agg (listR q cs H)
 | .tup cs=>mapO AV.tup (listR q cs H)
 | .fn f a b=>nxt (listR q a H) fun a' H'=>mapO (AV.fn f a') (listR q b H')
 | x=>q x H
theorem frzV_run (x : AV) (k : AV → AP AV) (H : NL ABlk) : (frzV x k).run H = nxt (valR frz0R x H) fun x H => (k x).run H := by
 unfold frzV
 split
 · simp only [frzL_run,valR,nxt_map]
 · simp only [frzL_run,valR,nxt_map]
 · rename_i f a b
   simp only [frzL_run,valR]
   cases listR frz0R a H with
   | none=>rfl
   | some o =>
     simp only [nxt]
     cases listR frz0R b o.H with
     | none=>rfl
     | some q =>
       simp only [mapO,thn]
       cases (k (.fn f o.val q.val)).run q.H <;> simp [and_assoc]
 · rename_i h1 h2 h3
   rw [frz1_bind,run_bindN]
   have : valR frz0R x H = frz0R x H:=by
     unfold valR
     split
     · exact absurd rfl (h1 _)
     · exact absurd rfl (h2 _)
     · exact absurd rfl (h3 _ _ _)
     · rfl
   rw [this]
   rfl
theorem brwV_run (x : AV) (k : AV → AP AV) (H : NL ABlk) : (brwV x k).run H = nxt (valR brw0R x H) fun x H => (k x).run H := by
 unfold brwV
 split
 · simp only [brwL_run,valR,nxt_map]
 · simp only [brwL_run,valR,nxt_map]
 · rename_i f a b
   simp only [brwL_run,valR]
   cases listR brw0R a H with
   | none=>rfl
   | some o =>
     simp only [nxt]
     cases listR brw0R b o.H with
     | none=>rfl
     | some q =>
       simp only [mapO,thn]
       cases (k (.fn f o.val q.val)).run q.H <;> simp [and_assoc]
 · rename_i h1 h2 h3
   rw [brw1_bind,run_bindN]
   have : valR brw0R x H = brw0R x H:=by
     unfold valR
     split
     · exact absurd rfl (h1 _)
     · exact absurd rfl (h2 _)
     · exact absurd rfl (h3 _ _ _)
     · rfl
   rw [this]
   rfl
theorem frzVs_run : ∀ (l : List AV) (k : List AV → AP AV) (H : NL ABlk),(frzVs l k).run H = nxt (listR (valR frz0R) l H) fun x H => (k x).run H
 | [],k,H=>by simp [frzVs,listR,nxt]
 | x :: r,k,H=>by
   simp only [frzVs,listR,nxt_assoc,nxt_some]
   rw [frzV_run]
   congr 1; funext x' H'
   rw [frzVs_run r]
theorem brwVs_run : ∀ (l : List AV) (k : List AV → AP AV) (H : NL ABlk),(brwVs l k).run H = nxt (listR (valR brw0R) l H) fun x H => (k x).run H
 | [],k,H=>by simp [brwVs,listR,nxt]
 | x :: r,k,H=>by
   simp only [brwVs,listR,nxt_assoc,nxt_some]
   rw [brwV_run]
   congr 1; funext x' H'
   rw [brwVs_run r]
theorem listR_inl {q : AV → NL ABlk → Option (Out AV)} (hq : ∀ {x : AV},x.isInl = true → ∀ H,q x H = some ⟨x,H,[],[],True⟩) : ∀ {l : List AV} (_ : l.all AV.isInl = true) (H : NL ABlk),listR q l H = some ⟨l,H,[],[],True⟩
 | [],_,_=>rfl
 | x :: r,h,H=>by
   simp only [List.all_cons,Bool.and_eq_true] at h
   simp only [listR]
   rw [hq h.1,nxt_some,listR_inl hq h.2,nxt_some]
theorem listR_brwV {l : List AV} (h : l.all AV.inl2 = true) (H : NL ABlk) : listR (valR brw0R) l H = some ⟨l,H,[],[],True⟩ := by
 induction l with
 | nil=>rfl
 | cons x r ih =>
   simp only [List.all_cons,Bool.and_eq_true] at h
   have : valR brw0R x H = some ⟨x,H,[],[],True⟩:=by
     rcases inl2_cases h.1 with ⟨cs,rfl,h'⟩ | ⟨f,rfl⟩ | ⟨h',h1,h2,h3⟩
     · simp only [valR,listR_inl brw0R_inl h',mapO]
     · simp [valR,listR,nxt,mapO]
     · unfold valR
       split
       · exact absurd rfl (h1 _)
       · exact absurd rfl (h2 _)
       · exact absurd rfl (h3 _ _ _)
       · exact brw0R_inl h' H
   simp only [listR,this,nxt_some,ih h.2]
theorem listR_frzV {l : List AV} (h : l.all AV.inl2 = true) (H : NL ABlk) : listR (valR frz0R) l H = some ⟨l,H,[],[],True⟩ := by
 induction l with
 | nil=>rfl
 | cons x r ih =>
   simp only [List.all_cons,Bool.and_eq_true] at h
   have : valR frz0R x H = some ⟨x,H,[],[],True⟩:=by
     rcases inl2_cases h.1 with ⟨cs,rfl,h'⟩ | ⟨f,rfl⟩ | ⟨h',h1,h2,h3⟩
     · simp only [valR,listR_inl frz0R_inl h',mapO]
     · simp [valR,listR,nxt,mapO]
     · unfold valR
       split
       · exact absurd rfl (h1 _)
       · exact absurd rfl (h2 _)
       · exact absurd rfl (h3 _ _ _)
       · exact frz0R_inl h' H
   simp only [listR,this,nxt_some,ih h.2]
def addRd {α : Type} (id : Nat) (o : Option (Out α)) : Option (Out α) := match o with
 | some o=>some ⟨o.val,o.H,id :: o.rd,o.wr,o.as⟩
 | none=>none
theorem get_runR {α : Type} (id : Nat) (k : ABlk → AP α) (H : NL ABlk) (h0 : (k {}).run H = none) : (AP.get id k).run H = match lk H id with
   | some b=>addRd id ((k b).run H)
   | none=>none:=by
 simp only [AP.run]
 cases lk H id with
 | none=>simp [h0]
 | some b=>simp only [addRd]; cases (k b).run H <;> rfl
def loadR (P : Program) (t : TypeId) (x : AV) (H : NL ABlk) : Option (Out AV) := (loadA P t x).run H
theorem loadR_ptr (P : Program) (t : TypeId) (id g r o : Nat) (H : NL ABlk) : loadR P t (.ptr id g r o) H = match lk H id with
   | some b=>if b.gen = g ∧ (b.kind = 1 ∨ b.kind = 2) then match b.rows[r]? with
       | some row=>addRd id ((mkv P t (row.drop o)).run H)
       | none=>none
     else none
   | none=>none:=by
 simp only [loadR,loadA]
 rw [get_runR _ _ _ (by simp [AP.run])]
 cases lk H id with
 | none=>rfl
 | some b =>
   dsimp only
   by_cases h : b.gen = g ∧ (b.kind = 1 ∨ b.kind = 2)
   · simp only [if_pos h]
     cases b.rows[r]? <;> rfl
   · simp only [if_neg h]; rfl
theorem loadR_cptr (P : Program) (t : TypeId) (cells : List AV) (H : NL ABlk) : loadR P t (.cptr cells) H = (mkv P t cells).run H := rfl
def putCellsR (id g r o : Nat) (cs : List AV) (H : NL ABlk) : Option (Out AV) := match lk H id with
 | some b=>if b.gen = g ∧ b.kind = 2 ∧ cs.all (fun x=>x.cellish && (!b.inl || x.isInl)) = true then match b.rows[r]? with
     | some row=>if o + cs.length ≤ row.length then some ⟨.any,st H id { b with rows:=b.rows.set r (splice row o cs) },[id],[id],True⟩ else none
     | none=>none
   else none
 | none=>none
theorem putCells_run (id g r o : Nat) (cs : List AV) (H : NL ABlk) : (putCells id g r o cs).run H = putCellsR id g r o cs H := by
 simp only [putCells,putCellsR]
 rw [get_runR _ _ _ (by simp [AP.run])]
 cases lk H id with
 | none=>rfl
 | some b =>
   dsimp only
   by_cases h : b.gen = g ∧ b.kind = 2 ∧ cs.all (fun x=>x.cellish && (!b.inl || x.isInl)) = true
   · simp only [if_pos h]
     cases b.rows[r]? with
     | none=>rfl
     | some row =>
       dsimp only
       by_cases h2 : o + cs.length ≤ row.length
       · simp only [if_pos h2]; rfl
       · simp only [if_neg h2]; rfl
   · simp only [if_neg h]; rfl
def storeR (P : Program) (t : TypeId) (a x : AV) (H : NL ABlk) : Option (Out AV) := (storeA P t a x).run H
theorem storeR_ptr (P : Program) (t : TypeId) (id g r o : Nat) (x : AV) (H : NL ABlk) : storeR P t (.ptr id g r o) x H = match x.cellsOf with
   | some cs=>if szOf P t = some cs.length then match lk H id with
       | some b=>if b.inl = true then addRd id (nxt (listR frz0R cs H) fun cs' H'=>putCellsR id g r o cs' H') else addRd id (putCellsR id g r o cs H)
       | none=>none
     else none
   | none=>none:=by
 simp only [storeR,storeA]
 cases x.cellsOf with
 | none=>rfl
 | some cs =>
   dsimp only
   by_cases h : szOf P t = some cs.length
   · simp only [if_pos h]
     cases hb : lk H id with
     | none=>simp [AP.run,hb,putCells]
     | some b =>
       simp only [AP.run,hb]
       by_cases hi : b.inl = true
       · simp only [if_pos hi,frzL_run,putCells_run]
         unfold addRd
         rfl
       · simp only [if_neg hi,putCells_run]
         unfold addRd
         rfl
   · simp only [if_neg h]; rfl
def lenR (P : Program) (t : TypeId) (x : AV) (H : NL ABlk) : Option (Out AV) := (lenXA P t x).run H
def indexAddrR (P : Program) (t : TypeId) (x ix : AV) (H : NL ABlk) : Option (Out AV) := (indexAddrA P t x ix).run H
theorem lenR_eq (P : Program) (t : TypeId) (x : AV) (H : NL ABlk) : lenR P t x H = match P.underlying t,x with
   | some (.slice _), .nils=>some ⟨.int .i64 0,H,[],[],True⟩
   | some (.slice _), .list _ rows=>some ⟨.int .i64 rows.length,H,[],[],rows.length ≤ maxLen ∧ True⟩
   | some (.slice _), .sl id g _ len=>match lk H id with
     | some b=>if b.gen = g then some ⟨.int .i64 len,H,[id],[],len ≤ maxLen ∧ True⟩ else none
     | none=>if 0 = g then some ⟨.int .i64 len,H,[id],[],len ≤ maxLen ∧ True⟩ else none
   | some (.slice _), .slc _ _ _ len _=>some ⟨.int .i64 len,H,[],[],len ≤ maxLen ∧ True⟩
   | some .string, .str s=>some ⟨.int .i64 s.size,H,[],[],True⟩
   | some (.array _ _), .slc _ _ _ _ _=>none
   | some (.array n _),_=>some ⟨.int .i64 n,H,[],[],True⟩
   | _,_=>none:=by
 unfold lenR lenXA lenA lenCA
 cases P.underlying t with
 | none=>cases x <;> rfl
 | some d =>
   cases d with
   | slice elem =>
     cases x with
     | sl i g off len =>
       simp only [AP.run]
       cases hb : lk H i with
       | none =>
         dsimp only
         by_cases h : 0 = g
         · simp [h,AP.run]
         · simp [h,AP.run]
       | some b =>
         dsimp only
         by_cases h : b.gen = g
         · simp [h,AP.run]
         · simp [h,AP.run]
     | _=>rfl
   | string=>cases x <;> rfl
   | array n e=>cases x <;> rfl
   | _=>cases x <;> rfl
theorem indexAddrR_eq (P : Program) (t : TypeId) (x : AV) (k : IntKind) (n : Int) (H : NL ABlk) : indexAddrR P t x (.int k n) H = if 0 ≤ n then
     match P.underlying t with
     | some (.slice elem)=>match x with
       | .list size rows=>match rows[n.toNat]? with
         | some row=>if szOf P elem = some size then some ⟨.cptr row,H,[],[],True⟩ else none
         | none=>none
       | .sl id g off len=>if n < len then match lk H id with
           | some b=>if b.gen = g ∧ szOf P elem = some b.size then some ⟨.ptr id g (off + n.toNat) 0,H,[id],[],True⟩ else none
           | none=>if 0 = g ∧ szOf P elem = some ({} : ABlk).size then some ⟨.ptr id g (off + n.toNat) 0,H,[id],[],True⟩ else none
         else none
       | _=>none
     | some (.array len elem)=>if n < len then match szOf P elem with
         | some s=>match x with
           | .ptr id g r o=>some ⟨.ptr id g r (o + n.toNat * s),H,[],[],True⟩
           | .cptr cells=>some ⟨.cptr (cells.drop (n.toNat * s)),H,[],[],True⟩
           | _=>none
         | none=>none
       else none
     | _=>none
   else none:=by
 simp only [indexAddrR,indexAddrA]
 by_cases h : 0 ≤ n
 · simp only [if_pos h]
   cases P.underlying t with
   | none=>rfl
   | some d =>
     cases d with
     | slice elem =>
       dsimp only
       cases x with
       | list size rows =>
         dsimp only
         cases rows[n.toNat]? with
         | none=>rfl
         | some row =>
           dsimp only
           by_cases h2 : szOf P elem = some size
           · simp only [if_pos h2]; rfl
           · simp only [if_neg h2]; rfl
       | sl id g off len =>
         dsimp only
         by_cases h2 : n < len
         · simp only [if_pos h2,AP.run]
           cases hb : lk H id with
           | none =>
             dsimp only
             by_cases h3 : 0 = g ∧ szOf P elem = some ({} : ABlk).size
             · have h3' : ({} : ABlk).gen = g ∧ szOf P elem = some ({} : ABlk).size:=h3
               simp only [if_pos h3,if_pos h3',AP.run]
             · have h3' : ¬ (({} : ABlk).gen = g ∧ szOf P elem = some ({} : ABlk).size):=h3
               simp only [if_neg h3,if_neg h3',AP.run]
           | some b =>
             dsimp only
             by_cases h3 : b.gen = g ∧ szOf P elem = some b.size
             · simp only [if_pos h3,AP.run]
             · simp only [if_neg h3,AP.run]
         · simp only [if_neg h2]; rfl
       | _=>rfl
     | array len elem =>
       dsimp only
       by_cases h2 : n < len
       · simp only [if_pos h2]
         cases szOf P elem with
         | none=>rfl
         | some s=>cases x <;> rfl
       · simp only [if_neg h2]; rfl
     | _=>rfl
 · simp only [if_neg h]; rfl
def boxR (elem : TypeId) (dst : Nat) (x : AV) (H : NL ABlk) : Option (Out AV) := match x.cellsOf with
 | some cs=>if 0 < cs.length ∧ cs.all AV.cellish = true then some ⟨.ptr (newId dst) (genOf H (newId dst)) 0 0,st H (newId dst) { gen:=genOf H (newId dst),kind:=2,elem:=elem,size:=cs.length,inl:=false,rows:=[cs] },[newId dst],[newId dst],True⟩ else none
 | none=>none
theorem newRow_run (id : Nat) (elem : TypeId) (size : Nat) (inl : Bool) (rows : List (List AV)) (k : Nat → AV) (H : NL ABlk) : (newRowA id elem size inl rows k).run H =
   if 0 < size ∧ rows.all (fun r=>r.length == size && r.all fun x=>x.cellish && (!inl || x.isInl)) = true then some ⟨k (genOf H id),st H id { gen:=genOf H id,kind:=2,elem,size,inl,rows },[id],[id],True⟩ else none:=by
 simp only [newRowA,AP.run]
 have key : ∀ b : ABlk,b = (lk H id).getD {} → (if 0 < size ∧ rows.all (fun r=>r.length == size && r.all fun x=>x.cellish && (!inl || x.isInl)) = true then AP.put id { gen:=b.gen + 1,kind:=2,elem,size,inl,rows } (.ret (k (b.gen + 1))) else AP.fail).run H =
     if 0 < size ∧ rows.all (fun r=>r.length == size && r.all fun x=>x.cellish && (!inl || x.isInl)) = true then some ⟨k (genOf H id),st H id { gen:=genOf H id,kind:=2,elem,size,inl,rows },[],[id],True⟩ else none:=by
   intro b hb
   have hg : b.gen + 1 = genOf H id:=by rw [hb]; rfl
   by_cases h : 0 < size ∧ rows.all (fun r=>r.length == size && r.all fun x=>x.cellish && (!inl || x.isInl)) = true
   · simp only [if_pos h,AP.run,hg]
   · simp only [if_neg h,AP.run]
 cases hb : lk H id with
 | none =>
   dsimp only
   rw [key {} (by simp [hb])]
   by_cases h : 0 < size ∧ rows.all (fun r=>r.length == size && r.all fun x=>x.cellish && (!inl || x.isInl)) = true
   · simp only [if_pos h]
   · simp only [if_neg h]
 | some b =>
   dsimp only
   rw [key b (by simp [hb])]
   by_cases h : 0 < size ∧ rows.all (fun r=>r.length == size && r.all fun x=>x.cellish && (!inl || x.isInl)) = true
   · simp only [if_pos h]
   · simp only [if_neg h]
theorem box_run (elem : TypeId) (dst : Nat) (x : AV) (H : NL ABlk) : (boxA elem dst x).run H = boxR elem dst x H := by
 unfold boxA boxR
 cases x.cellsOf with
 | none=>rfl
 | some cs =>
   simp only [newRow_run]
   have : (∀ y : AV,(y.cellish && (!false || y.isInl)) = y.cellish):=by intro y; simp
   simp only [this,List.all_cons,List.all_nil,Bool.and_true,beq_self_eq_true,Bool.true_and]
def allocR (P : Program) (elem : TypeId) (dst : Nat) (H : NL ABlk) : Option (Out AV) := match zeroA P elem with
 | some x=>boxR elem dst x H
 | none=>none
theorem alloc_run (P : Program) (elem : TypeId) (dst : Nat) (H : NL ABlk) : (allocA P elem dst).run H = allocR P elem dst H := by
 unfold allocA allocR
 cases zeroA P elem with
 | none=>rfl
 | some x=>exact box_run elem dst x H
def sliceNewR (P : Program) (dst : Nat) (t : TypeId) (len : Nat) (parts : List (Nat × AV)) (H : NL ABlk) : Option (Out AV) := match P.underlying t with
 | some (.slice elem)=>match szOf P elem,(zeroA P elem).bind AV.cellsOf with
   | some s,some z=>if 0 < s ∧ z.length = s ∧ len * s ≤ 2 ^ 24 ∧ len ≤ maxLen then
       match sliceRows s len z parts with
       | some rows=>if rows.all (fun r=>r.length == s && r.all fun x=>x.cellish && x.isInl) = true then some ⟨.sl (newId dst) (genOf H (newId dst)) 0 len,st H (newId dst) { gen:=genOf H (newId dst),kind:=2,elem,size:=s,inl:=true,rows },[newId dst],[newId dst],True⟩ else none
       | none=>none
     else none
   | _,_=>none
 | _=>none
def buildSliceR (P : Program) (dst : Nat) (t : TypeId) (len : Nat) (parts : List (Nat × AV)) (H : NL ABlk) : Option (Out AV) :=
 if parts.all (fun p=>p.2.inl2) = true then sliceNewR P dst t len parts H else (buildSliceA P dst t len parts).run H
theorem buildSlice_run (P : Program) (dst : Nat) (t : TypeId) (len : Nat) (parts : List (Nat × AV)) (H : NL ABlk) : (buildSliceA P dst t len parts).run H = buildSliceR P dst t len parts H := by
 unfold buildSliceR
 split
 · rename_i h
   unfold buildSliceA sliceNewR
   rw [frzP_inl h]
   cases P.underlying t with
   | none=>rfl
   | some d =>
     cases d with
     | slice elem =>
       dsimp only
       cases szOf P elem with
       | none=>rfl
       | some s =>
         cases (zeroA P elem).bind AV.cellsOf with
         | none=>rfl
         | some z =>
           dsimp only
           by_cases h1 : 0 < s ∧ z.length = s ∧ len * s ≤ 2 ^ 24 ∧ len ≤ maxLen
           · simp only [if_pos h1]
             cases sliceRows s len z parts with
             | none=>rfl
             | some rows =>
               dsimp only
               rw [newRow_run]
               simp only [h1.1,true_and,Bool.not_true,Bool.false_or]
           · simp only [if_neg h1]; rfl
     | _=>rfl
 · rfl
def gatherR : Nat → List Nat → List (Nat × ABlk) → NL ABlk → Option (Out (List (Nat × ABlk)))
 | _,[],acc,H=>some ⟨acc,H,[],[],True⟩
 | 0,_ :: _,_,_=>none
 | n + 1,i :: r,acc,H=>if acc.any (fun p=>p.1 == i) then gatherR n r acc H else match lk H i with
   | some b=>if b.kind = 0 then none else addRd i (gatherR n (r ++ refsB b) (acc ++ [(i,b)]) H)
   | none=>none
theorem nxt_addRd {α β : Type} (i : Nat) (o : Option (Out α)) (f : α → NL ABlk → Option (Out β)) : nxt (addRd i o) f = addRd i (nxt o f) := by
 cases o with
 | none=>rfl
 | some o =>
   simp only [addRd,nxt,thn]
   cases f o.val o.H <;> simp
theorem gather_run {k : List (Nat × ABlk) → AP AV} {H : NL ABlk} : ∀ (n : Nat) (l : List Nat) (acc : List (Nat × ABlk)),(gather n l acc k).run H = nxt (gatherR n l acc H) fun L H => (k L).run H
 | 0,[],acc=>by simp [gather,gatherR,nxt]
 | n + 1,[],acc=>by simp [gather,gatherR,nxt]
 | 0,_ :: _,_=>by simp [gather,gatherR,nxt,AP.run]
 | n + 1,i :: r,acc=>by
   simp only [gather,gatherR]
   by_cases h : acc.any (fun p=>p.1 == i) = true
   · simp only [if_pos h]
     exact gather_run n r acc
   · simp only [if_neg h]
     rw [get_runR _ _ _ (by simp [AP.run])]
     cases lk H i with
     | none=>rfl
     | some b =>
       dsimp only
       by_cases h2 : b.kind = 0
       · simp only [if_pos h2]; rfl
       · simp only [if_neg h2]
         rw [gather_run n,nxt_addRd]
def addRds {α : Type} (l : List Nat) (o : Option (Out α)) : Option (Out α) := match o with
 | some o=>some ⟨o.val,o.H,l ++ o.rd,o.wr,o.as⟩
 | none=>none
theorem getGens_run {k : List Nat → AP AV} {H : NL ABlk} : ∀ (l acc : List Nat),(getGens l acc k).run H = addRds l ((k (acc ++ l.map (genOf H))).run H)
 | [],acc=>by simp only [getGens,List.map_nil,List.append_nil]; cases (k acc).run H <;> simp [addRds]
 | i :: r,acc=>by
   simp only [getGens,AP.run]
   have key : ∀ b : ABlk,b = (lk H i).getD {} → (getGens r (acc ++ [b.gen + 1]) k).run H = addRds r ((k (acc ++ (i :: r).map (genOf H))).run H):=by
     intro b hb
     rw [getGens_run r]
     have hg : b.gen + 1 = genOf H i:=by rw [hb]; rfl
     simp [hg]
   cases hb : lk H i with
   | none =>
     dsimp only
     rw [key {} (by simp [hb])]
     cases (k (acc ++ (i :: r).map (genOf H))).run H <;> simp [addRds]
   | some b =>
     dsimp only
     rw [key b (by simp [hb])]
     cases (k (acc ++ (i :: r).map (genOf H))).run H <;> simp [addRds]
theorem putsR_run (v : AV) : ∀ (l : List (Nat × ABlk)) (H : NL ABlk),(putsA l (.ret v)).run H = some ⟨v,puts H l,[],l.map (·.1),True⟩
 | [],H=>rfl
 | (i,b) :: r,H=>by simp only [putsA,AP.run,putsR_run v r,puts,List.map_cons]
def callBR (dst : Nat) (S : SpecFn) (args : List AV) (H : NL ABlk) : Option (Out AV) :=
 nxt (gatherR 64 (refsL args) [] H) fun L H=>match S (renL (fF L) args) (handB L) with
   | some (r,B) =>
     if L.length ≤ B.length ∧ (freshIds (newId dst) L (B.length - L.length)).length = B.length - L.length ∧ B.all (fun b=>b.gen == 0 || b.gen == 1 && b.kind == 2) ∧ (B.drop L.length).all (fun b=>decide (2 ≤ b.kind) && b.gen == 0) then
       addRds (freshIds (newId dst) L (B.length - L.length)) (some ⟨r.ren (backF (idsOf L B (freshIds (newId dst) L (B.length - L.length)) ((freshIds (newId dst) L (B.length - L.length)).map (genOf H))) B),
         puts H (backL (idsOf L B (freshIds (newId dst) L (B.length - L.length)) ((freshIds (newId dst) L (B.length - L.length)).map (genOf H))) B),[],
         (backL (idsOf L B (freshIds (newId dst) L (B.length - L.length)) ((freshIds (newId dst) L (B.length - L.length)).map (genOf H))) B).map (·.1),True⟩)
     else none
   | none=>none
theorem callB_run (dst : Nat) (S : SpecFn) (args : List AV) (H : NL ABlk) : (callB dst S args).run H = callBR dst S args H := by
 unfold callB callBR
 rw [gather_run]
 congr 1; funext L H'
 cases S (renL (fF L) args) (handB L) with
 | none=>rfl
 | some p =>
   obtain ⟨r,B⟩:=p
   dsimp only
   split
   · rw [getGens_run,List.nil_append,putsR_run]
   · rfl
def callR (P : Program) (specs : FuncId → Option Spec) (dst : Nat) (f : FuncId) (args : List AV) (H : NL ABlk) : Option (Out AV) := match specs f with
 | some ⟨0,S⟩=>nxt (listR (valR brw0R) args H) fun args' H'=>match S args' [] with
     | some (r,[])=>if r.flat then some ⟨r,H',[],[],True⟩ else none
     | _=>none
 | some ⟨2,S⟩=>(frqVs args fun args'=>callB dst S args').run H
 | some ⟨3,S⟩=>callBR dst S args H
 | some ⟨_,S⟩=>nxt (listR (valR frz0R) args H) fun args' H'=>match S args' [] with
     | some (r,news)=>if news.all (fun b=>b.inl && b.kind == 2) then
         (instA (newId dst) 0 news [] fun gs => .ret (r.ren (newF (newId dst) news gs))).run H'
       else none
     | none=>none
 | none=>(extA P f args).run H
theorem callX_run (P : Program) (specs : FuncId → Option Spec) (dst : Nat) (f : FuncId) (args : List AV) (H : NL ABlk) : (match specs f with
   | some _=>callX specs dst f args
   | none=>extA P f args).run H = callR P specs dst f args H:=by
 unfold callX callR
 cases hs : specs f with
 | none=>rfl
 | some s =>
   obtain ⟨m,S⟩:=s
   match m with
   | 0 =>
     simp only [callA,hs]
     rw [brwVs_run]
     congr 1; funext a H'
     cases S a [] with
     | none=>rfl
     | some p =>
       obtain ⟨r,B⟩:=p
       cases B with
       | nil =>
         dsimp only
         by_cases hf : r.flat = true
         · simp only [if_pos hf]; rfl
         · simp only [if_neg hf]; rfl
       | cons _ _=>rfl
   | 1 =>
     simp only [callA,hs]
     rw [frzVs_run]
     congr 1; funext a H'
     cases S a [] with
     | none=>rfl
     | some p =>
       obtain ⟨r,B⟩:=p
       dsimp only
       split
       · rfl
       · rfl
   | 2=>rfl
   | 3=>simp only [callB_run]
   | m + 4 =>
     simp only [callA,hs]
     rw [frzVs_run]
     congr 1; funext a H'
     cases S a [] with
     | none=>rfl
     | some p =>
       obtain ⟨r,B⟩:=p
       dsimp only
       split
       · rfl
       · rfl
def calledR (P : Program) (specs : FuncId → Option Spec) (dst : Nat) (fx : AV) (args : List AV) (H : NL ABlk) : Option (Out AV) := match fx with
 | .fn (.func f) first caps=>callR P specs dst f (first ++ args ++ caps) H
 | _=>none
def opR (P : Program) (specs : FuncId → Option Spec) (ρ : Operand → AV) (dst : Nat) (op : Op) (H : NL ABlk) : Option (Out AV) := match op with
 | .load t a=>loadR P t (ρ a) H
 | .store t a x=>storeR P t (ρ a) (ρ x) H
 | .alloc elem=>allocR P elem dst H
 | .box elem x=>boxR elem dst (ρ x) H
 | .indexAddr t x ix=>indexAddrR P t (ρ x) (ρ ix) H
 | .buildSlice t len parts=>buildSliceR P dst t len (parts.toList.map fun p=>(p.1, ρ p.2)) H
 | .call ⟨.value fx,args,_⟩=>calledR P specs dst (ρ fx) (args.toList.map ρ) H
 | .call ⟨.builtin .len,args,ts⟩=>match ts.toList,args.toList.map ρ with
   | [t],[x]=>lenR P t x H
   | _,_=>none
 | op=>(opC P specs ρ dst op).run H
theorem opR_eq (P : Program) (specs : FuncId → Option Spec) (ρ : Operand → AV) (dst : Nat) (op : Op) (H : NL ABlk) : (opC P specs ρ dst op).run H = opR P specs ρ dst op H := by
 unfold opR
 split
 · rfl
 · rfl
 · exact alloc_run ..
 · exact box_run ..
 · rfl
 · exact buildSlice_run ..
 · simp only [opC,calledR]
   split
   · rename_i h; rw [h]; exact callX_run ..
   · rename_i h
     split
     · rename_i h2; exact absurd h2 (h _ _ _)
     · rfl
 · simp only [opC,builtinA]
   split
   · rename_i h1 h2; rw [h1,h2]; rfl
   · rename_i h
     split
     · rename_i h1 h2; exact absurd h2 (h _ _ h1)
     · rfl
 · rfl
theorem execA_eq (P : Program) (specs : FuncId → Option Spec) (kk : Nat) (σ : AS) (o : Oper) : execA P specs kk σ o = match opR P specs σ.ev (o.dst.getD 0 + kk) o.op σ.heap with
   | some out=>match putA σ o.dst out.val with
     | some ts=>some ({ σ with tmps:=ts,heap:=out.H },⟨out.rd,out.wr,out.as⟩)
     | none=>none
   | none=>none:=by
 unfold execA
 rw [opR_eq]
 rfl
@[simp ↓] theorem nxt_def {α β : Type} (o : Option (Out α)) (f : α → NL ABlk → Option (Out β)) : nxt o f = match o with
   | some o=>thn o (f o.val o.H)
   | none=>none:=rfl
@[simp] theorem addRd_some {α : Type} (id : Nat) (o : Out α) : addRd id (some o) = some ⟨o.val,o.H,id :: o.rd,o.wr,o.as⟩ := rfl
@[simp] theorem addRd_none {α : Type} (id : Nat) : addRd id (none : Option (Out α)) = none := rfl
@[simp] theorem addRds_some {α : Type} (l : List Nat) (o : Out α) : addRds l (some o) = some ⟨o.val,o.H,l ++ o.rd,o.wr,o.as⟩ := rfl
@[simp] theorem mapO_some {α β : Type} (f : α → β) (o : Out α) : mapO f (some o) = some ⟨f o.val,o.H,o.rd,o.wr,o.as⟩ := rfl
@[simp] theorem mapO_none {α β : Type} (f : α → β) : mapO f (none : Option (Out α)) = none := rfl
attribute [simp high] listR_brwV listR_frzV
attribute [simp] loadR_ptr loadR_cptr storeR_ptr putCellsR lenR_eq indexAddrR_eq boxR allocR buildSliceR sliceNewR callBR gatherR frz0R_sl brw0R_sl frz0R_inl brw0R_inl listR genOf puts
theorem listR_brw0 {l : List AV} (h : l.all AV.isInl = true) (H : NL ABlk) : listR brw0R l H = some ⟨l,H,[],[],True⟩ := listR_inl brw0R_inl h H
theorem listR_frz0 {l : List AV} (h : l.all AV.isInl = true) (H : NL ABlk) : listR frz0R l H = some ⟨l,H,[],[],True⟩ := listR_inl frz0R_inl h H
attribute [simp high] listR_brw0 listR_frz0
@[simp] theorem valR_agg (q : AV → NL ABlk → Option (Out AV)) (cs : List AV) (H : NL ABlk) : valR q (.agg cs) H = mapO AV.agg (listR q cs H) := rfl
@[simp] theorem valR_tup (q : AV → NL ABlk → Option (Out AV)) (cs : List AV) (H : NL ABlk) : valR q (.tup cs) H = mapO AV.tup (listR q cs H) := rfl
@[simp] theorem valR_fn (q : AV → NL ABlk → Option (Out AV)) (f : Fn) (H : NL ABlk) : valR q (.fn f [] []) H = some ⟨.fn f [] [],H,[],[],True⟩ := by simp [valR,listR]
@[simp] theorem valR_sl (q : AV → NL ABlk → Option (Out AV)) (i g o l : Nat) (H : NL ABlk) : valR q (.sl i g o l) H = q (.sl i g o l) H := rfl
theorem valR_brw {x : AV} (h : x.isInl = true) (H : NL ABlk) : valR brw0R x H = some ⟨x,H,[],[],True⟩ := by
 cases x <;> first
   | exact brw0R_inl h H
   | (rename_i f a b
      cases a <;> cases b <;> first
        | exact valR_fn _ _ _
        | cases h)
   | cases h
theorem valR_frz {x : AV} (h : x.isInl = true) (H : NL ABlk) : valR frz0R x H = some ⟨x,H,[],[],True⟩ := by
 cases x <;> first
   | exact frz0R_inl h H
   | (rename_i f a b
      cases a <;> cases b <;> first
        | exact valR_fn _ _ _
        | cases h)
   | cases h
attribute [simp] valR_brw valR_frz
def buildR (P : Program) (t : TypeId) (parts : List (Nat × AV)) (H : NL ABlk) : Option (Out AV) := (buildA P t parts).run H
def makeSliceR (P : Program) (dst : Nat) (t : TypeId) (l c : AV) (H : NL ABlk) : Option (Out AV) := (makeSliceA P dst t l c).run H
def lookupR (P : Program) (t : TypeId) (m x : AV) (ok : Bool) (H : NL ABlk) : Option (Out AV) := (lookupA P t m x ok).run H
def mapUpdateR (P : Program) (t : TypeId) (m x v : AV) (H : NL ABlk) : Option (Out AV) := (mapUpdateA P t m x v).run H
def sliceOpR (P : Program) (t : TypeId) (x : AV) (lo hi : Option AV) (H : NL ABlk) : Option (Out AV) := (sliceArrA P t x lo hi).run H
def appendR (P : Program) (dst : Nat) (ts : List TypeId) (xs : List AV) (H : NL ABlk) : Option (Out AV) := (builtinA P dst .append ts xs).run H
def binR (P : Program) (op : BinOp) (t : TypeId) (x y : AV) (H : NL ABlk) : Option (Out AV) := (binA P op t x y).run H
attribute [simp] buildR makeSliceR lookupR mapUpdateR sliceOpR
@[simp] theorem findX_int (P : Program) (k : TypeId) (q : IntKind) (x : AV) (rows : List (List AV)) : findX P k (.int q) x rows = findA (.int q) x rows 0 := rfl
@[simp] theorem findX_str (P : Program) (k : TypeId) (x : AV) (rows : List (List AV)) : findX P k .string x rows = findA .string x rows 0 := rfl
@[simp] theorem findX_bool (P : Program) (k : TypeId) (x : AV) (rows : List (List AV)) : findX P k .bool x rows = findA .bool x rows 0 := rfl
@[simp] theorem keyOKX_int (P : Program) (q : IntKind) (x : AV) : keyOKX P (.int q) x = keyOK (.int q) x := rfl
@[simp] theorem keyOKX_str (P : Program) (x : AV) : keyOKX P .string x = keyOK .string x := rfl
@[simp] theorem keyOKX_bool (P : Program) (x : AV) : keyOKX P .bool x = keyOK .bool x := rfl
@[simp] theorem opR_mapEntry (P : Program) (specs : FuncId → Option Spec) (ρ : Operand → AV) (dst : Nat) (t : TypeId) (m x : Operand) (H : NL ABlk) : opR P specs ρ dst (.mapEntry t m x) H = (mapEntryA P t (ρ m) (ρ x)).run H := rfl
@[simp] theorem opR_entryStore (P : Program) (specs : FuncId → Option Spec) (ρ : Operand → AV) (dst : Nat) (t : TypeId) (m s v : Operand) (H : NL ABlk) : opR P specs ρ dst (.entryStore t m s v) H = (entryStoreA (ρ m) (ρ s) (ρ v)).run H := rfl
@[simp] theorem opR_move (P : Program) (specs : FuncId → Option Spec) (ρ : Operand → AV) (dst : Nat) (x : Operand) (H : NL ABlk) : opR P specs ρ dst (.move x) H = some ⟨ρ x,H,[],[],True⟩ := rfl
@[simp] theorem opR_assign (P : Program) (specs : FuncId → Option Spec) (ρ : Operand → AV) (dst : Nat) (x : Operand) (H : NL ABlk) : opR P specs ρ dst (.assign x) H = some ⟨ρ x,H,[],[],True⟩ := rfl
@[simp] theorem opR_pick (P : Program) (specs : FuncId → Option Spec) (ρ : Operand → AV) (dst : Nat) (c : Operand) (a : Operand) (b : Operand) (H : NL ABlk) : opR P specs ρ dst (.pick c a b) H = (pickA (ρ c) (ρ a) (ρ b)).run H := rfl
@[simp] theorem opR_alloc (P : Program) (specs : FuncId → Option Spec) (ρ : Operand → AV) (dst : Nat) (elem : TypeId) (H : NL ABlk) : opR P specs ρ dst (.alloc elem) H = allocR P elem dst H := rfl
@[simp] theorem opR_box (P : Program) (specs : FuncId → Option Spec) (ρ : Operand → AV) (dst : Nat) (elem : TypeId) (x : Operand) (H : NL ABlk) : opR P specs ρ dst (.box elem x) H = boxR elem dst (ρ x) H := rfl
@[simp] theorem opR_build (P : Program) (specs : FuncId → Option Spec) (ρ : Operand → AV) (dst : Nat) (t : TypeId) (parts : Array (Nat × Operand)) (H : NL ABlk) : opR P specs ρ dst (.build t parts) H = buildR P t (parts.toList.map fun p => (p.1, ρ p.2)) H := rfl
@[simp] theorem opR_buildSlice (P : Program) (specs : FuncId → Option Spec) (ρ : Operand → AV) (dst : Nat) (t : TypeId) (len : Nat) (parts : Array (Nat × Operand)) (H : NL ABlk) : opR P specs ρ dst (.buildSlice t len parts) H = buildSliceR P dst t len (parts.toList.map fun p => (p.1, ρ p.2)) H := rfl
@[simp] theorem opR_load (P : Program) (specs : FuncId → Option Spec) (ρ : Operand → AV) (dst : Nat) (t : TypeId) (a : Operand) (H : NL ABlk) : opR P specs ρ dst (.load t a) H = loadR P t (ρ a) H := rfl
@[simp] theorem opR_store (P : Program) (specs : FuncId → Option Spec) (ρ : Operand → AV) (dst : Nat) (t : TypeId) (a : Operand) (x : Operand) (H : NL ABlk) : opR P specs ρ dst (.store t a x) H = storeR P t (ρ a) (ρ x) H := rfl
@[simp] theorem opR_nilCheck (P : Program) (specs : FuncId → Option Spec) (ρ : Operand → AV) (dst : Nat) (x : Operand) (H : NL ABlk) : opR P specs ρ dst (.nilCheck x) H = (nilCheckA (ρ x)).run H := rfl
@[simp] theorem opR_binOp (P : Program) (specs : FuncId → Option Spec) (ρ : Operand → AV) (dst : Nat) (o : BinOp) (t : TypeId) (x : Operand) (y : Operand) (ty : TypeId) (H : NL ABlk) : opR P specs ρ dst (.binOp o t x y ty) H = binR P o t (ρ x) (ρ y) H := rfl
@[simp] theorem opR_unOp (P : Program) (specs : FuncId → Option Spec) (ρ : Operand → AV) (dst : Nat) (o : UnOp) (t : TypeId) (x : Operand) (H : NL ABlk) : opR P specs ρ dst (.unOp o t x) H = (unOpA o (ρ x)).run H := rfl
@[simp] theorem opR_convert (P : Program) (specs : FuncId → Option Spec) (ρ : Operand → AV) (dst : Nat) (src : TypeId) (d : TypeId) (x : Operand) (H : NL ABlk) : opR P specs ρ dst (.convert src d x) H = (convertA P src d (ρ x)).run H := rfl
@[simp] theorem opR_makeFunc (P : Program) (specs : FuncId → Option Spec) (ρ : Operand → AV) (dst : Nat) (fn : Fn) (first : Array Operand) (captured : Array Operand) (H : NL ABlk) : opR P specs ρ dst (.makeFunc fn first captured) H = some ⟨.fn fn (first.toList.map ρ) (captured.toList.map ρ),H,[],[],True⟩ := rfl
@[simp] theorem opR_makeSlice (P : Program) (specs : FuncId → Option Spec) (ρ : Operand → AV) (dst : Nat) (t : TypeId) (l : Operand) (c : Operand) (H : NL ABlk) : opR P specs ρ dst (.makeSlice t l c) H = makeSliceR P dst t (ρ l) (ρ c) H := rfl
@[simp] theorem opR_fieldAddr (P : Program) (specs : FuncId → Option Spec) (ρ : Operand → AV) (dst : Nat) (sx : TypeId) (x : Operand) (f : Nat) (H : NL ABlk) : opR P specs ρ dst (.fieldAddr sx x f) H = (fieldAddrA P sx f (ρ x)).run H := rfl
@[simp] theorem opR_field (P : Program) (specs : FuncId → Option Spec) (ρ : Operand → AV) (dst : Nat) (t : TypeId) (x : Operand) (f : Nat) (H : NL ABlk) : opR P specs ρ dst (.field t x f) H = (fieldA P t f (ρ x)).run H := rfl
@[simp] theorem opR_indexAddr (P : Program) (specs : FuncId → Option Spec) (ρ : Operand → AV) (dst : Nat) (t : TypeId) (x : Operand) (ix : Operand) (H : NL ABlk) : opR P specs ρ dst (.indexAddr t x ix) H = indexAddrR P t (ρ x) (ρ ix) H := rfl
@[simp] theorem opR_index (P : Program) (specs : FuncId → Option Spec) (ρ : Operand → AV) (dst : Nat) (t : TypeId) (x : Operand) (ix : Operand) (H : NL ABlk) : opR P specs ρ dst (.index t x ix) H = (indexA P t (ρ x) (ρ ix)).run H := rfl
@[simp] theorem opR_extract (P : Program) (specs : FuncId → Option Spec) (ρ : Operand → AV) (dst : Nat) (t : Operand) (ix : Nat) (H : NL ABlk) : opR P specs ρ dst (.extract t ix) H = (extractA (ρ t) ix).run H := rfl
@[simp] theorem opR_lookup (P : Program) (specs : FuncId → Option Spec) (ρ : Operand → AV) (dst : Nat) (t : TypeId) (m : Operand) (x : Operand) (ok : Bool) (H : NL ABlk) : opR P specs ρ dst (.lookup t m x ok) H = lookupR P t (ρ m) (ρ x) ok H := rfl
@[simp] theorem opR_sliceToArrayPointer (P : Program) (specs : FuncId → Option Spec) (ρ : Operand → AV) (dst : Nat) (t : TypeId) (x : Operand) (H : NL ABlk) : opR P specs ρ dst (.sliceToArrayPointer t x) H = (arrayAtA P t (ρ x)).run H := rfl
@[simp] theorem opR_mapUpdate (P : Program) (specs : FuncId → Option Spec) (ρ : Operand → AV) (dst : Nat) (t : TypeId) (m : Operand) (x : Operand) (v : Operand) (H : NL ABlk) : opR P specs ρ dst (.mapUpdate t m x v) H = mapUpdateR P t (ρ m) (ρ x) (ρ v) H := rfl
@[simp] theorem opR_insert (P : Program) (specs : FuncId → Option Spec) (ρ : Operand → AV) (dst : Nat) (t : TypeId) (m : Operand) (x : Operand) (v : Operand) (H : NL ABlk) : opR P specs ρ dst (.insert t m x v) H = mapUpdateR P t (ρ m) (ρ x) (ρ v) H := rfl
@[simp] theorem opR_makeMap (P : Program) (specs : FuncId → Option Spec) (ρ : Operand → AV) (dst : Nat) (t : TypeId) (r : Option Operand) (H : NL ABlk) : opR P specs ρ dst (.makeMap t r) H = (makeMapA dst (r.map ρ)).run H := rfl
@[simp] theorem opR_slice (P : Program) (specs : FuncId → Option Spec) (ρ : Operand → AV) (dst : Nat) (t : TypeId) (x : Operand) (lo hi : Option Operand) (H : NL ABlk) : opR P specs ρ dst (.slice t x lo hi none) H = sliceOpR P t (ρ x) (lo.map ρ) (hi.map ρ) H := rfl
@[simp] theorem opR_call (P : Program) (specs : FuncId → Option Spec) (ρ : Operand → AV) (dst : Nat) (fx : Operand) (args : Array Operand) (ts : Array TypeId) (H : NL ABlk) : opR P specs ρ dst (.call ⟨.value fx,args,ts⟩) H = calledR P specs dst (ρ fx) (args.toList.map ρ) H := rfl
@[simp] theorem calledR_fn (P : Program) (specs : FuncId → Option Spec) (dst : Nat) (f : FuncId) (args : List AV) (H : NL ABlk) : calledR P specs dst (.fn (.func f) [] []) args H = callR P specs dst f args H := by
 simp [calledR]
@[simp low] theorem calledR_eq (P : Program) (specs : FuncId → Option Spec) (dst : Nat) (f : FuncId) (a b args : List AV) (H : NL ABlk) : calledR P specs dst (.fn (.func f) a b) args H = callR P specs dst f (a ++ args ++ b) H := rfl
attribute [simp] callR
def lenOpR (P : Program) (ts : List TypeId) (xs : List AV) (H : NL ABlk) : Option (Out AV) := match ts,xs with
 | [t],[x]=>lenR P t x H
 | _,_=>none
@[simp] theorem lenOpR_eq (P : Program) (t : TypeId) (x : AV) (H : NL ABlk) : lenOpR P [t] [x] H = lenR P t x H := rfl
@[simp] theorem opR_len (P : Program) (specs : FuncId → Option Spec) (ρ : Operand → AV) (dst : Nat) (args : Array Operand) (ts : Array TypeId) (H : NL ABlk) : opR P specs ρ dst (.call ⟨.builtin .len,args,ts⟩) H = lenOpR P ts.toList (args.toList.map ρ) H := rfl
@[simp] theorem opR_append (P : Program) (specs : FuncId → Option Spec) (ρ : Operand → AV) (dst : Nat) (args : Array Operand) (ts : Array TypeId) (H : NL ABlk) : opR P specs ρ dst (.call ⟨.builtin .append,args,ts⟩) H = appendR P dst ts.toList (args.toList.map ρ) H := rfl
@[simp] theorem opR_min (P : Program) (specs : FuncId → Option Spec) (ρ : Operand → AV) (dst : Nat) (args : Array Operand) (ts : Array TypeId) (H : NL ABlk) : opR P specs ρ dst (.call ⟨.builtin .min,args,ts⟩) H = (mmA false (args.toList.map ρ)).run H := rfl
@[simp] theorem opR_max (P : Program) (specs : FuncId → Option Spec) (ρ : Operand → AV) (dst : Nat) (args : Array Operand) (ts : Array TypeId) (H : NL ABlk) : opR P specs ρ dst (.call ⟨.builtin .max,args,ts⟩) H = (mmA true (args.toList.map ρ)).run H := rfl
@[simp] theorem binR_add (P : Program) (t : TypeId) (k : IntKind) (a b : Int) (H : NL ABlk) : binR P .add t (.int k a) (.int k b) H = some ⟨.int k (k.wrap (a + b)),H,[],[],True⟩ := by simp [binR,binA,binOpA,AP.run]
@[simp] theorem binR_sub (P : Program) (t : TypeId) (k : IntKind) (a b : Int) (H : NL ABlk) : binR P .sub t (.int k a) (.int k b) H = some ⟨.int k (k.wrap (a - b)),H,[],[],True⟩ := by simp [binR,binA,binOpA,AP.run]
@[simp] theorem binR_mul (P : Program) (t : TypeId) (k : IntKind) (a b : Int) (H : NL ABlk) : binR P .mul t (.int k a) (.int k b) H = some ⟨.int k (k.wrap (a * b)),H,[],[],True⟩ := by simp [binR,binA,binOpA,AP.run]
@[simp] theorem binR_and (P : Program) (t : TypeId) (k : IntKind) (a b : Int) (H : NL ABlk) : binR P .and t (.int k a) (.int k b) H = some ⟨.int k (k.wrap (BitVec.ofInt k.bits a &&& BitVec.ofInt k.bits b).toNat),H,[],[],True⟩ := by simp [binR,binA,binOpA,AP.run]
@[simp] theorem binR_or (P : Program) (t : TypeId) (k : IntKind) (a b : Int) (H : NL ABlk) : binR P .or t (.int k a) (.int k b) H = some ⟨.int k (k.wrap (BitVec.ofInt k.bits a ||| BitVec.ofInt k.bits b).toNat),H,[],[],True⟩ := by simp [binR,binA,binOpA,AP.run]
@[simp] theorem binR_xor (P : Program) (t : TypeId) (k : IntKind) (a b : Int) (H : NL ABlk) : binR P .xor t (.int k a) (.int k b) H = some ⟨.int k (k.wrap (BitVec.ofInt k.bits a ^^^ BitVec.ofInt k.bits b).toNat),H,[],[],True⟩ := by simp [binR,binA,binOpA,AP.run]
@[simp] theorem binR_andNot (P : Program) (t : TypeId) (k : IntKind) (a b : Int) (H : NL ABlk) : binR P .andNot t (.int k a) (.int k b) H = some ⟨.int k (k.wrap (BitVec.ofInt k.bits a &&& ~~~ BitVec.ofInt k.bits b).toNat),H,[],[],True⟩ := by simp [binR,binA,binOpA,AP.run]
@[simp] theorem binR_eql (P : Program) (t : TypeId) (k : IntKind) (a b : Int) (H : NL ABlk) : binR P .eql t (.int k a) (.int k b) H = some ⟨.bool (a == b),H,[],[],True⟩ := by simp [binR,binA,binOpA,AP.run]
@[simp] theorem binR_neq (P : Program) (t : TypeId) (k : IntKind) (a b : Int) (H : NL ABlk) : binR P .neq t (.int k a) (.int k b) H = some ⟨.bool (a != b),H,[],[],True⟩ := by simp [binR,binA,binOpA,AP.run]
@[simp] theorem binR_lss (P : Program) (t : TypeId) (k : IntKind) (a b : Int) (H : NL ABlk) : binR P .lss t (.int k a) (.int k b) H = some ⟨.bool (a < b),H,[],[],True⟩ := by simp [binR,binA,binOpA,AP.run]
@[simp] theorem binR_leq (P : Program) (t : TypeId) (k : IntKind) (a b : Int) (H : NL ABlk) : binR P .leq t (.int k a) (.int k b) H = some ⟨.bool (a ≤ b),H,[],[],True⟩ := by simp [binR,binA,binOpA,AP.run]
@[simp] theorem binR_gtr (P : Program) (t : TypeId) (k : IntKind) (a b : Int) (H : NL ABlk) : binR P .gtr t (.int k a) (.int k b) H = some ⟨.bool (a > b),H,[],[],True⟩ := by simp [binR,binA,binOpA,AP.run]
@[simp] theorem binR_geq (P : Program) (t : TypeId) (k : IntKind) (a b : Int) (H : NL ABlk) : binR P .geq t (.int k a) (.int k b) H = some ⟨.bool (a ≥ b),H,[],[],True⟩ := by simp [binR,binA,binOpA,AP.run]
@[simp] theorem binR_quo (P : Program) (t : TypeId) (k : IntKind) (a b : Int) (H : NL ABlk) : binR P .quo t (.int k a) (.int k b) H = if b = 0 then none else some ⟨.int k (k.wrap (a.tdiv b)),H,[],[],True⟩ := by
 simp only [binR,binA,binOpA]
 by_cases h : b = 0 <;> simp [h,AP.run]
@[simp] theorem binR_rem (P : Program) (t : TypeId) (k : IntKind) (a b : Int) (H : NL ABlk) : binR P .rem t (.int k a) (.int k b) H = if b = 0 then none else some ⟨.int k (a.tmod b),H,[],[],True⟩ := by
 simp only [binR,binA,binOpA]
 by_cases h : b = 0 <;> simp [h,AP.run]
@[simp] theorem binR_shl (P : Program) (t : TypeId) (k k' : IntKind) (a b : Int) (H : NL ABlk) : binR P .shl t (.int k a) (.int k' b) H = if 0 ≤ b then some ⟨.int k (k.wrap (a * 2 ^ min b.toNat k.bits)),H,[],[],True⟩ else none := by
 simp only [binR,binA,binOpA]
 by_cases h : 0 ≤ b <;> simp [h,AP.run]
@[simp] theorem binR_shr (P : Program) (t : TypeId) (k k' : IntKind) (a b : Int) (H : NL ABlk) : binR P .shr t (.int k a) (.int k' b) H = if 0 ≤ b then some ⟨.int k (a.fdiv (2 ^ min b.toNat k.bits)),H,[],[],True⟩ else none := by
 simp only [binR,binA,binOpA]
 by_cases h : 0 ≤ b <;> simp [h,AP.run]
@[simp] theorem binR_str (P : Program) (op : BinOp) (t : TypeId) (a b : ByteArray) (H : NL ABlk) : binR P op t (.str a) (.str b) H = (binOpA op (.str a) (.str b)).run H := rfl
@[simp] theorem binR_agg (P : Program) (op : BinOp) (t : TypeId) (a b : List AV) (H : NL ABlk) : binR P op t (.agg a) (.agg b) H = (eqlA P op t (.agg a) (.agg b)).run H := rfl
def boolT (P : Program) (t : TypeId) : Bool := match P.underlying t with
 | some .bool=>true
 | _=>false
theorem boolT_eq {P : Program} {t : TypeId} (h : boolT P t = true) : P.underlying t = some .bool := by
 unfold boolT at h
 split at h
 · assumption
 · cases h
@[simp high] theorem binR_eqb (P : Program) (t : TypeId) (a b : Bool) (H : NL ABlk) (h : boolT P t = true) : binR P .eql t (.bool a) (.bool b) H = some ⟨.bool (a == b),H,[],[],True⟩ := by
 simp [binR,binA,binOpA,eqlA,boolT_eq h,AP.run]
@[simp high] theorem binR_neb (P : Program) (t : TypeId) (a b : Bool) (H : NL ABlk) (h : boolT P t = true) : binR P .neq t (.bool a) (.bool b) H = some ⟨.bool (!(a == b)),H,[],[],True⟩ := by
 simp [binR,binA,binOpA,eqlA,boolT_eq h,AP.run]
@[simp] theorem binR_bool (P : Program) (op : BinOp) (t : TypeId) (a b : Bool) (H : NL ABlk) : binR P op t (.bool a) (.bool b) H = (eqlA P op t (.bool a) (.bool b)).run H := rfl
def frzTR (x : AV) (H : NL ABlk) : Option (Out AV) := match x with
 | .tup cs=>mapO AV.tup (listR (valR frz0R) cs H)
 | x=>valR frz0R x H
theorem frzT_runR (x : AV) (H : NL ABlk) : (frzT x .ret).run H = frzTR x H := by
 unfold frzT frzTR
 split
 · rw [frzVs_run]
   show nxt _ (fun x H=>some ⟨AV.tup x,H,[],[],True⟩) = _
   rw [nxt_ret]
 · rw [frzV_run]
   show nxt _ (fun x H=>some ⟨x,H,[],[],True⟩) = _
   rw [nxt_ret (f:=fun x=>x)]
   have hm : ∀ o : Option (Out AV),mapO (fun x=>x) o = o:=fun o=>by cases o <;> rfl
   rw [hm]
   split <;> simp_all
theorem Ret.dataR {P : Program} {fn : Func} {r : AV} {σ : AS} {xs : List AV} {H : NL ABlk} {rd wr : List Nat} {A : Prop} {rs : List ResultVar} (h0 : fn.results.toList = rs) (h1 : resVs P σ rs = some xs) (h2 : frzTR (pack xs) σ.heap = some ⟨r,H,rd,wr,A⟩) (h3 : inlT r = true) : Ret P fn r [] σ :=
 Ret.data h0 h1 ((frzT_runR _ _).trans h2) h3
attribute [simp] frzTR
theorem loadA_runR (P : Program) (t : TypeId) (x : AV) (H : NL ABlk) : (loadA P t x).run H = loadR P t x H := rfl
def apT (P : Program) (t : TypeId) : Option (TypeId × Nat × Nat) := match P.underlying t with
 | some (.slice elem)=>match P.info? elem with
   | some i=>if 0 < i.size ∧ (i.zero.map fun z=>z.cells.size) = some i.size then some (elem,i.size,i.bytes) else none
   | none=>none
 | _=>none
def rowsR (size : Nat) (x : AV) (H : NL ABlk) : Option (Out (List (List AV))) := match x with
 | .nils=>some ⟨[],H,[],[],True⟩
 | .list sz rows=>if sz = size then some ⟨rows,H,[],[],True⟩ else none
 | .sl id g off len=>match lk H id with
   | some b=>if b.gen = g ∧ (b.kind = 1 ∨ b.kind = 2) ∧ off + len ≤ b.rows.length ∧ b.size = size ∧ b.inl = true then some ⟨(b.rows.drop off).take len,H,[id],[],True⟩ else none
   | none=>none
 | .psl _ _ _ _ 0=>some ⟨[],H,[],[],True⟩
 | _=>none
theorem rows_run (size : Nat) (x : AV) (k : List (List AV) → AP AV) (H : NL ABlk) : (rowsA size x k).run H = nxt (rowsR size x H) fun r H => (k r).run H := by
 cases x with
 | nils=>simp [rowsA,rowsR,nxt]
 | list sz rows =>
   by_cases h : sz = size
   · simp [rowsA,rowsR,nxt,h]
   · simp [rowsA,rowsR,nxt,h,AP.run]
 | sl id g off len =>
   simp only [rowsA,rowsR]
   rw [get_runR _ _ _ (by simp [AP.run])]
   cases lk H id with
   | none=>rfl
   | some b =>
     dsimp only
     by_cases h : b.gen = g ∧ (b.kind = 1 ∨ b.kind = 2) ∧ off + len ≤ b.rows.length ∧ b.size = size ∧ b.inl = true
     · simp only [if_pos h]
       rw [show (some ⟨(b.rows.drop off).take len,H,[id],[],True⟩ : Option (Out (List (List AV)))) = addRd id (some ⟨(b.rows.drop off).take len,H,[],[],True⟩) from rfl,nxt_addRd,nxt_some]
     · simp only [if_neg h]; rfl
 | psl _ _ _ _ len =>
   cases len
   · simp [rowsA,rowsR,nxt]
   · rfl
 | _=>rfl
def growR (dst elem size bytes : Nat) (s : AV) (news : List (List AV)) (H : NL ABlk) : Option (Out AV) := match s with
 | .nils=>if news.length * bytes ≤ 140737488355328 ∧ news.length ≤ maxLen then
     some ⟨.sl (newId dst) (genOf H (newId dst)) 0 news.length,st H (newId dst) { gen:=genOf H (newId dst),kind:=2,elem,size,inl:=true,rows:=news },[newId dst],[newId dst],True⟩
   else none
 | .sl id g 0 len=>match lk H id with
   | some b=>if b.gen = g ∧ b.kind = 2 ∧ b.elem = elem ∧ b.size = size ∧ b.inl = true ∧ len ≤ b.rows.length ∧ (len + news.length) * bytes ≤ 140737488355328 ∧ len + news.length ≤ maxLen then
       some ⟨.sl id (b.gen + 1) 0 (len + news.length),st H id { gen:=b.gen + 1,kind:=2,elem,size,inl:=true,rows:=firstRows len b.rows ++ news },[id],[id],True⟩
     else none
   | none=>none
 | _=>none
def appendXR (P : Program) (dst : Nat) (t t' : TypeId) (s x : AV) (H : NL ABlk) : Option (Out AV) := match apT P t with
 | some (elem,size,bytes)=>if t = t' then nxt (rowsR size x H) fun news H'=>growR dst elem size bytes s news H' else none
 | none=>none
theorem append_run (P : Program) (dst : Nat) (t t' : TypeId) (s x : AV) (H : NL ABlk) : (appendA P dst t t' s x).run H = appendXR P dst t t' s x H := by
 unfold appendA appendXR apT
 cases P.underlying t with
 | none=>rfl
 | some d =>
   cases d with
   | slice elem =>
     dsimp only
     cases P.info? elem with
     | none=>rfl
     | some i =>
       dsimp only
       by_cases h1 : 0 < i.size ∧ (i.zero.map fun z=>z.cells.size) = some i.size
       · simp only [if_pos h1]
         by_cases h2 : t = t'
         · rw [if_pos ⟨h2,h1.1,h1.2⟩,if_pos h2,rows_run]
           congr 1; funext news H'
           cases s with
           | nils =>
             simp only [growR]
             split
             · simp only [AP.run]
               cases hb : lk H' (newId dst) with
               | none=>simp [genOf,hb]
               | some b=>simp [genOf,hb]
             · rfl
           | sl id g off len =>
             cases off with
             | zero =>
               simp only [growR]
               rw [get_runR _ _ _ (by simp [AP.run])]
               cases lk H' id with
               | none=>rfl
               | some b =>
                 dsimp only
                 by_cases h : b.gen = g ∧ b.kind = 2 ∧ b.elem = elem ∧ b.size = i.size ∧ b.inl = true ∧ len ≤ b.rows.length ∧ (len + news.length) * i.bytes ≤ 140737488355328 ∧ len + news.length ≤ maxLen
                 · simp only [if_pos h]; simp [AP.run]
                 · simp only [if_neg h]; rfl
             | succ n=>rfl
           | _=>rfl
         · rw [if_neg (fun h=>h2 h.1),if_neg h2]; rfl
       · rw [if_neg (fun h=>h1 ⟨h.2.1,h.2.2⟩)]
         simp only [if_neg h1]
         rfl
   | _=>rfl
def appendZR (P : Program) (dst : Nat) (t t' : TypeId) (s x : AV) (H : NL ABlk) : Option (Out AV) := match apT P t,P.underlying t',s,x with
 | some (elem,size,bytes),some (.int _), .slc id g off len cap, .int _ n=>match (zeroA P elem).bind AV.cellsOf,lk H id with
   | some z,some b =>
     if b.gen = g ∧ b.inl = true ∧ b.size = size ∧ off + len ≤ b.rows.length ∧ z.length = size ∧ z.all (fun x=>x.cellish && x.isInl) = true ∧ 0 < n ∧ cap < len + n.toNat ∧ (len + n.toNat) * bytes ≤ 140737488355328 ∧ len + n.toNat ≤ maxLen then
       some ⟨.sl (newId dst) (genOf H (newId dst)) 0 (len + n.toNat),st H (newId dst) { gen:=genOf H (newId dst),kind:=2,elem,size,inl:=true,rows:=(b.rows.drop off).take len ++ List.replicate n.toNat z },[id,newId dst],[newId dst],True⟩
     else none
   | _,_=>none
 | _,_,_,_=>none
theorem appendZ_run (P : Program) (dst : Nat) (t t' id g off len cap : Nat) (x : AV) (H : NL ABlk) (ht : (apT P t).isSome = true) : (appendZA P dst t t' (.slc id g off len cap) x).run H = appendZR P dst t t' (.slc id g off len cap) x H := by
 unfold apT at ht
 unfold appendZA appendZR apT
 split at ht
 · rename_i elem hu
   cases hi : P.info? elem with
   | none=>simp [hi] at ht
   | some i =>
     simp only [hi] at ht
     by_cases hs : 0 < i.size ∧ (i.zero.map fun z=>z.cells.size) = some i.size
     · simp only [hu,hi,if_pos hs]
       cases hu' : P.underlying t' with
       | none=>rfl
       | some d =>
         cases d <;> try rfl
         cases x <;> try rfl
         rename_i k n
         dsimp only
         cases hz : (zeroA P elem).bind AV.cellsOf with
         | none=>simp only [hi]; rfl
         | some z =>
           simp only [hi]
           rw [get_runR _ _ _ (by
             have h : ¬ (0 = i.size):=by omega
             simp [AP.run])]
           cases hb : lk H id with
           | none=>rfl
           | some b =>
             dsimp only
             by_cases hc : b.gen = g ∧ b.inl = true ∧ b.size = i.size ∧ off + len ≤ b.rows.length ∧ z.length = i.size ∧ z.all (fun x=>x.cellish && x.isInl) = true ∧ 0 < n ∧ cap < len + n.toNat ∧ (len + n.toNat) * i.bytes ≤ 140737488355328 ∧ len + n.toNat ≤ maxLen
             · obtain ⟨c1,c2,c3,c4,c5⟩:=hc
               rw [if_pos ⟨c1,c2,c3,c4,hs.1,c5⟩,if_pos ⟨c1,c2,c3,c4,c5⟩]
               simp only [AP.run,genOf]
               cases lk H (newId dst) <;> rfl
             · rw [if_neg (fun h=>hc ⟨h.1,h.2.1,h.2.2.1,h.2.2.2.1,h.2.2.2.2.2⟩),if_neg hc]
               rfl
     · rw [if_neg hs] at ht
       cases ht
 · cases ht
@[simp] theorem appendR_slc (P : Program) (dst : Nat) (t t' i g o l c : Nat) (k : IntKind) (n : Int) (H : NL ABlk) (ht : (apT P t).isSome = true) : appendR P dst [t,t'] [.slc i g o l c, .int k n] H = appendZR P dst t t' (.slc i g o l c) (.int k n) H :=
 appendZ_run P dst t t' i g o l c (.int k n) H ht
def appendCR (P : Program) (dst : Nat) (t t' : TypeId) (id g off len cap : Nat) (x : AV) (H : NL ABlk) : Option (Out AV) := match apT P t with
 | some (elem,size,bytes)=>if t = t' then nxt (rowsR size (unC x) H) fun news H'=>match lk H' id with
     | some b=>if b.gen = g ∧ b.kind = 2 ∧ b.elem = elem ∧ b.size = size ∧ b.inl = true ∧ off + len ≤ b.rows.length ∧ len + news.length ≤ cap then
         some ⟨.slc id g off (len + news.length) cap,st H' id { b with rows:=splice b.rows (off + len) news },[id],[id],True⟩
       else if b.gen = g ∧ b.elem = elem ∧ b.size = size ∧ b.inl = true ∧ off + len ≤ b.rows.length ∧ cap < len + news.length ∧ (len + news.length) * bytes ≤ 140737488355328 ∧ len + news.length ≤ maxLen then
         some ⟨.sl (newId dst) (genOf H' (newId dst)) 0 (len + news.length),st H' (newId dst) { gen:=genOf H' (newId dst),kind:=2,elem,size,inl:=true,rows:=(b.rows.drop off).take len ++ news },[id,newId dst],[newId dst],True⟩
       else none
     | none=>none
   else none
 | none=>none
theorem appendC_run (P : Program) (dst : Nat) (t t' id g off len cap : Nat) (x : AV) (H : NL ABlk) (ht : (apT P t).isSome = true) : (appendCA P dst t t' (.slc id g off len cap) x).run H = appendCR P dst t t' id g off len cap x H := by
 unfold apT at ht
 unfold appendCA appendCR apT
 split at ht
 · rename_i elem hu
   cases hi : P.info? elem with
   | none=>simp [hi] at ht
   | some i =>
     simp only [hi] at ht
     by_cases hs : 0 < i.size ∧ (i.zero.map fun z=>z.cells.size) = some i.size
     · simp only [hu,hi,if_pos hs]
       by_cases h2 : t = t'
       · rw [if_pos ⟨h2,hs.1⟩,if_pos h2,rows_run]
         congr 1; funext news H'
         rw [get_runR _ _ _ (by
           have h : ¬ (0 = i.size):=by omega
           simp [AP.run,h])]
         cases lk H' id with
         | none=>rfl
         | some b =>
           dsimp only
           by_cases h : b.gen = g ∧ b.kind = 2 ∧ b.elem = elem ∧ b.size = i.size ∧ b.inl = true ∧ off + len ≤ b.rows.length ∧ len + news.length ≤ cap
           · simp only [if_pos h]; simp [AP.run]
           · simp only [if_neg h]
             by_cases h3 : b.gen = g ∧ b.elem = elem ∧ b.size = i.size ∧ b.inl = true ∧ off + len ≤ b.rows.length ∧ cap < len + news.length ∧ (len + news.length) * i.bytes ≤ 140737488355328 ∧ len + news.length ≤ maxLen
             · obtain ⟨k1,k2,k3,k4,k5,k6,k7⟩:=h3
               rw [if_pos ⟨k1,k2,k3,k4,k5,k6,hs.2,k7⟩,if_pos ⟨k1,k2,k3,k4,k5,k6,k7⟩]
               simp only [AP.run,genOf]
               cases lk H' (newId dst) <;> rfl
             · rw [if_neg (fun h=>h3 ⟨h.1,h.2.1,h.2.2.1,h.2.2.2.1,h.2.2.2.2.1,h.2.2.2.2.2.1,h.2.2.2.2.2.2.2⟩),if_neg h3]; rfl
       · rw [if_neg (fun h=>h2 h.1),if_neg h2]; rfl
     · rw [if_neg hs] at ht
       cases ht
 · cases ht
@[simp] theorem appendR_slcL (P : Program) (dst : Nat) (t t' i g o l c s : Nat) (rows : List (List AV)) (H : NL ABlk) (ht : (apT P t).isSome = true) : appendR P dst [t,t'] [.slc i g o l c, .list s rows] H = appendCR P dst t t' i g o l c (.list s rows) H :=
 appendC_run P dst t t' i g o l c (.list s rows) H ht
@[simp] theorem appendR_slcC (P : Program) (dst : Nat) (t t' i g o l c i' g' o' l' c' : Nat) (H : NL ABlk) (ht : (apT P t).isSome = true) : appendR P dst [t,t'] [.slc i g o l c, .slc i' g' o' l' c'] H = appendCR P dst t t' i g o l c (.slc i' g' o' l' c') H :=
 appendC_run P dst t t' i g o l c (.slc i' g' o' l' c') H ht
@[simp] theorem appendR_slcS (P : Program) (dst : Nat) (t t' i g o l c i' g' o' l' : Nat) (H : NL ABlk) (ht : (apT P t).isSome = true) : appendR P dst [t,t'] [.slc i g o l c, .sl i' g' o' l'] H = appendCR P dst t t' i g o l c (.sl i' g' o' l') H :=
 appendC_run P dst t t' i g o l c (.sl i' g' o' l') H ht
@[simp low] theorem appendR_eq (P : Program) (dst : Nat) (t t' : TypeId) (s x : AV) (H : NL ABlk) : appendR P dst [t,t'] [s,x] H = match s with
   | .slc i g o l c=>(appendSA P dst t t' (.slc i g o l c) x).run H
   | s=>appendXR P dst t t' s x H:=by
 unfold appendR builtinA appendSA
 cases s <;> first
   | rfl
   | exact append_run ..
attribute [simp] appendXR rowsR growR appendZR appendCR unC
theorem apT_slice {P : Program} {t : TypeId} (h : (apT P t).isSome = true) : ∃ e,P.underlying t = some (.slice e) := by
 unfold apT at h
 split at h
 · rename_i e he; exact ⟨e,he⟩
 · cases h
@[simp] theorem binR_eql_nn (P : Program) (t : TypeId)  (H : NL ABlk) (h : (apT P t).isSome = true) : binR P .eql t .nils .nils H = some ⟨.bool true,H,[],[],True⟩ := by
 obtain ⟨e,he⟩:=apT_slice h
 simp [binR,binA,binOpA,eqlA,nilA,nilB,he,AP.run]
@[simp] theorem binR_eql_ln (P : Program) (t : TypeId) (s : Nat) (r : List AV) (l : List (List AV)) (H : NL ABlk) (h : (apT P t).isSome = true) : binR P .eql t (.list s (r :: l)) .nils H = some ⟨.bool false,H,[],[],True⟩ := by
 obtain ⟨e,he⟩:=apT_slice h
 simp [binR,binA,binOpA,eqlA,nilA,nilB,he,AP.run]
@[simp] theorem binR_eql_nl (P : Program) (t : TypeId) (s : Nat) (r : List AV) (l : List (List AV)) (H : NL ABlk) (h : (apT P t).isSome = true) : binR P .eql t .nils (.list s (r :: l)) H = some ⟨.bool false,H,[],[],True⟩ := by
 obtain ⟨e,he⟩:=apT_slice h
 simp [binR,binA,binOpA,eqlA,nilA,nilB,he,AP.run]
@[simp] theorem binR_eql_pn (P : Program) (t : TypeId) (i g r o l : Nat) (H : NL ABlk) (h : (apT P t).isSome = true) : binR P .eql t (.psl i g r o l) .nils H = some ⟨.bool false,H,[],[],True⟩ := by
 obtain ⟨e,he⟩:=apT_slice h
 simp [binR,binA,binOpA,eqlA,nilA,nilB,he,AP.run]
@[simp] theorem binR_neq_nn (P : Program) (t : TypeId)  (H : NL ABlk) (h : (apT P t).isSome = true) : binR P .neq t .nils .nils H = some ⟨.bool false,H,[],[],True⟩ := by
 obtain ⟨e,he⟩:=apT_slice h
 simp [binR,binA,binOpA,eqlA,nilA,nilB,he,AP.run]
@[simp] theorem binR_neq_ln (P : Program) (t : TypeId) (s : Nat) (r : List AV) (l : List (List AV)) (H : NL ABlk) (h : (apT P t).isSome = true) : binR P .neq t (.list s (r :: l)) .nils H = some ⟨.bool true,H,[],[],True⟩ := by
 obtain ⟨e,he⟩:=apT_slice h
 simp [binR,binA,binOpA,eqlA,nilA,nilB,he,AP.run]
@[simp] theorem binR_neq_nl (P : Program) (t : TypeId) (s : Nat) (r : List AV) (l : List (List AV)) (H : NL ABlk) (h : (apT P t).isSome = true) : binR P .neq t .nils (.list s (r :: l)) H = some ⟨.bool true,H,[],[],True⟩ := by
 obtain ⟨e,he⟩:=apT_slice h
 simp [binR,binA,binOpA,eqlA,nilA,nilB,he,AP.run]
@[simp] theorem binR_neq_pn (P : Program) (t : TypeId) (i g r o l : Nat) (H : NL ABlk) (h : (apT P t).isSome = true) : binR P .neq t (.psl i g r o l) .nils H = some ⟨.bool true,H,[],[],True⟩ := by
 obtain ⟨e,he⟩:=apT_slice h
 simp [binR,binA,binOpA,eqlA,nilA,nilB,he,AP.run]
@[simp] theorem binR_eql_sn (P : Program) (t : TypeId) (i g o l : Nat) (H : NL ABlk) (h : (apT P t).isSome = true) : binR P .eql t (.sl i g o (l + 1)) .nils H = (AP.get i fun b => if b.gen = g then .ret (.bool false) else .fail).run H := by
 obtain ⟨e,he⟩:=apT_slice h
 simp [binR,binA,binOpA,eqlA,nilA,nilB,he]
@[simp] theorem binR_neq_sn (P : Program) (t : TypeId) (i g o l : Nat) (H : NL ABlk) (h : (apT P t).isSome = true) : binR P .neq t (.sl i g o (l + 1)) .nils H = (AP.get i fun b => if b.gen = g then .ret (.bool true) else .fail).run H := by
 obtain ⟨e,he⟩:=apT_slice h
 simp [binR,binA,binOpA,eqlA,nilA,nilB,he]
def capOpR (P : Program) (ts : List TypeId) (xs : List AV) (H : NL ABlk) : Option (Out AV) := match ts,xs with
 | [t],[x]=>(capA P t x).run H
 | _,_=>none
@[simp] theorem capOpR_eq (P : Program) (t : TypeId) (x : AV) (H : NL ABlk) : capOpR P [t] [x] H = (capA P t x).run H := rfl
@[simp] theorem opR_cap (P : Program) (specs : FuncId → Option Spec) (ρ : Operand → AV) (dst : Nat) (args : Array Operand) (ts : Array TypeId) (H : NL ABlk) : opR P specs ρ dst (.call ⟨.builtin .cap,args,ts⟩) H = capOpR P ts.toList (args.toList.map ρ) H := by
 simp only [opR,opC,builtinA,capOpR]
 generalize ts.toList = a
 generalize List.map ρ args.toList = c
 rcases a with _ | ⟨_,_ | ⟨_,_ | ⟨_,_⟩⟩⟩ <;> rcases c with _ | ⟨_,_ | ⟨_,_ | ⟨_,_⟩⟩⟩ <;> rfl
def clearOpR (P : Program) (ts : List TypeId) (xs : List AV) (H : NL ABlk) : Option (Out AV) := match ts,xs with
 | [t],[x]=>(clearA P t x).run H
 | _,_=>none
@[simp] theorem clearOpR_eq (P : Program) (t : TypeId) (x : AV) (H : NL ABlk) : clearOpR P [t] [x] H = (clearA P t x).run H := rfl
@[simp] theorem opR_clear (P : Program) (specs : FuncId → Option Spec) (ρ : Operand → AV) (dst : Nat) (args : Array Operand) (ts : Array TypeId) (H : NL ABlk) : opR P specs ρ dst (.call ⟨.builtin .clear,args,ts⟩) H = clearOpR P ts.toList (args.toList.map ρ) H := by
 simp only [opR,opC,builtinA,clearOpR]
 generalize ts.toList = a
 generalize List.map ρ args.toList = c
 rcases a with _ | ⟨_,_ | ⟨_,_ | ⟨_,_⟩⟩⟩ <;> rcases c with _ | ⟨_,_ | ⟨_,_ | ⟨_,_⟩⟩⟩ <;> rfl
def copyOpR (P : Program) (ts : List TypeId) (xs : List AV) (H : NL ABlk) : Option (Out AV) := match ts,xs with
 | [t,_],[d,s]=>(copyA P t d s).run H
 | _,_=>none
@[simp] theorem copyOpR_eq (P : Program) (t t' : TypeId) (d s : AV) (H : NL ABlk) : copyOpR P [t,t'] [d,s] H = (copyA P t d s).run H := rfl
@[simp] theorem opR_copy (P : Program) (specs : FuncId → Option Spec) (ρ : Operand → AV) (dst : Nat) (args : Array Operand) (ts : Array TypeId) (H : NL ABlk) : opR P specs ρ dst (.call ⟨.builtin .copy,args,ts⟩) H = copyOpR P ts.toList (args.toList.map ρ) H := by
 simp only [opR,opC,builtinA,copyOpR]
 generalize ts.toList = a
 generalize List.map ρ args.toList = c
 rcases a with _ | ⟨_,_ | ⟨_,_ | ⟨_,_⟩⟩⟩ <;> rcases c with _ | ⟨_,_ | ⟨_,_ | ⟨_,_⟩⟩⟩ <;> rfl
@[simp] theorem opR_slice3 (P : Program) (specs : FuncId → Option Spec) (ρ : Operand → AV) (dst : Nat) (t : TypeId) (x : Operand) (lo hi : Option Operand) (m : Operand) (H : NL ABlk) : opR P specs ρ dst (.slice t x lo hi (some m)) H = (slice3A P t (ρ x) (lo.map ρ) (hi.map ρ) (ρ m)).run H := rfl
end
end Go.Abs
