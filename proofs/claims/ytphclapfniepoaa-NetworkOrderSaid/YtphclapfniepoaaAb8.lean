/- Cutting a walk: what holds behind a part. Conditions: none. -/
import Derived.Test.YtphclapfniepoaaAb7
import Derived.Deep.Slices
import Derived.OpenShut
import Derived.ProofKit
namespace Go.Abs
open Go
section
variable {P : Program} {Q : AS → Prop}
theorem W.cut {c : Code} {fs : List Fr} {σ : AS} (hc : c = .seq (cL c) (cR c)) (M : AS → Prop) (h1 : W P Q (cL c) (.loop M :: fs) σ) (h2 : ∀ σ',M σ' → W P Q (cR c) fs σ') : W P Q c fs σ := by
 refine ⟨?_⟩
 rw [hc]
 refine WP.seq (h1.h.mono fun e σ h=>?_)
 cases e with
 | normal=>exact (h2 σ h).h
 | _=>exact h
def partsR : List (Nat × AV) → NL ABlk → Option (Out (List (Nat × AV)))
 | [],H=>some ⟨[],H,[],[],True⟩
 | (i,x) :: r,H=>nxt (valR frz0R x H) fun x' H'=>nxt (partsR r H') fun r' H''=>some ⟨(i,x') :: r',H'',[],[],True⟩
theorem frzP_run : ∀ (l : List (Nat × AV)) (k : List (Nat × AV) → AP AV) (H : NL ABlk),(frzP l k).run H = nxt (partsR l H) fun x H => (k x).run H
 | [],k,H=>by simp [frzP,partsR]
 | (i,x) :: r,k,H=>by
   simp only [frzP,partsR,nxt_assoc,nxt_some]
   rw [frzV_run]
   congr 1; funext x' H'
   rw [frzP_run r]
@[simp ↓] theorem buildSliceA_runV (P : Program) (dst : Nat) (t : TypeId) (len : Nat) (parts : List (Nat × AV)) (H : NL ABlk) : (buildSliceA P dst t len parts).run H = nxt (partsR parts H) fun ps H' => sliceNewR P dst t len ps H' := by
 unfold buildSliceA
 rw [frzP_run]
 congr 1; funext ps H'
 unfold sliceNewR
 cases P.underlying t with
 | none=>rfl
 | some d =>
   cases d with
   | slice elem =>
     dsimp only
     cases szOf P elem with
     | none=>rfl
     | some s =>
       cases (zeroA P elem).bind AV.cellsOf with
       | none=>rfl
       | some z =>
         dsimp only
         by_cases h1 : 0 < s ∧ z.length = s ∧ len * s ≤ 2 ^ 24 ∧ len ≤ maxLen
         · simp only [if_pos h1]
           cases sliceRows s len z ps with
           | none=>rfl
           | some rows =>
             dsimp only
             rw [newRow_run]
             simp only [h1.1,true_and,Bool.not_true,Bool.false_or]
         · simp only [if_neg h1]; rfl
   | _=>rfl
attribute [simp] partsR
end
section
variable {P : Program}
def VP (P : Program) (c : Code) (Q : Exit → AS → Prop) (σ : AS) : Prop := ∀ (a : Act) (E : Env),SR σ a E → c.wp P (Post E Q) a E.w
theorem WP.vp {c : Code} {Q : Exit → AS → Prop} {σ : AS} (h : WP P c Q σ) : VP P c Q σ := fun _ _ hs => h.run hs
theorem Post.mono {E : Env} {Q Q' : Exit → AS → Prop} (hq : ∀ e σ,Q e σ → Q' e σ) {e : Exit} {a : Act} {w : World} (h : Post E Q e a w) : Post E Q' e a w := by
 obtain ⟨σ',E',h1,h2,h3,h4⟩:=h
 exact ⟨σ',E',h1,h2,h3,hq _ _ h4⟩
theorem VP.mono {c : Code} {Q Q' : Exit → AS → Prop} {σ : AS} (h : VP P c Q σ) (hq : ∀ e σ,Q e σ → Q' e σ) : VP P c Q' σ := fun a E hs => wp_mono (h a E hs) fun _ _ _ hp => Post.mono hq hp
theorem VP.weak {c : Code} {Q : Exit → AS → Prop} {σ σ' : AS} (hl : AS.le σ' σ) (h : VP P c Q σ') : VP P c Q σ := fun a E hs => h a E (hs.le hl)
theorem VP.seq {x y : Code} {Q : Exit → AS → Prop} {σ : AS} (h : VP P x (fun e σ' => match e with
   | .normal=>VP P y Q σ'
   | e=>Q e σ') σ) : VP P (.seq x y) Q σ:=fun a E hs=>by
 refine wp_seq (wp_mono (h a E hs) fun e a' w' hp=>?_)
 obtain ⟨σ',E',rfl,k1,k2,k3⟩:=hp
 cases e with
 | normal =>
   refine wp_mono (k3 a' E' k1) fun e a'' w'' hp=>?_
   obtain ⟨σ'',E'',rfl,g1,g2,g3⟩:=hp
   exact ⟨σ'',E'',rfl,g1,k2.trans g2,g3⟩
 | _=>exact ⟨σ',E',rfl,k1,k2,k3⟩
theorem VP.block {id : Nat} {x : Code} {Q : Exit → AS → Prop} {σ : AS} (h : VP P x (fun e σ' => match e with
   | .exit i=>if i = id then Q .normal σ' else Q (.exit i) σ'
   | e=>Q e σ') σ) : VP P (.block id x) Q σ:=fun a E hs=>by
 refine wp_block (wp_mono (h a E hs) fun e a' w' hp=>?_)
 obtain ⟨σ',E',rfl,h1,h2,h3⟩:=hp
 cases e with
 | exit i =>
   simp only [Exit.inBlock]
   simp only at h3
   split
   · rename_i e; rw [if_pos e] at h3; exact ⟨σ',E',rfl,h1,h2,h3⟩
   · rename_i e; rw [if_neg e] at h3; exact ⟨σ',E',rfl,h1,h2,h3⟩
 | _=>exact ⟨σ',E',rfl,h1,h2,h3⟩
theorem VP.cond {c : Operand} {x y : Code} {b : Bool} {Q : Exit → AS → Prop} {σ : AS} (hc : σ.ev c = .bool b) (ht : b = true → VP P x Q σ) (hf : b = false → VP P y Q σ) : VP P (.cond c x y) Q σ := fun a E hs => by
 have h:=hs.ev c
 rw [hc] at h
 simp only [Rep] at h
 exact wp_cond_split h (fun e=>ht e a E hs) (fun e=>hf e a E hs)
theorem VP.loop {x : Code} {Q : Exit → AS → Prop} {ι : Type} (J : ι → AS) (m : ι → Nat)
   (step : ∀ i,VP P x (fun e σ'=>match e with
     | .normal => ∃ j,m j < m i ∧ AS.le (J j) σ'
     | e=>Q e σ') (J i)) {σ : AS} (i : ι) (h0 : AS.le (J i) σ) : VP P (.loop x) Q σ:=by
 have key : ∀ (n : Nat) (i : ι),m i < n → ∀ (a : Act) (E0 E : Env),Step E0 E → SR (J i) a E → Code.rounds P x (Post E0 Q) n a E.w:=by
   intro n
   induction n with
   | zero=>intro i h; omega
   | succ n ih =>
     intro i hi a E0 E hst hs
     rw [rounds_succ]
     refine wp_mono (step i a E hs) fun e a'' w'' hp=>?_
     obtain ⟨σ2,E2,rfl,k1,k2,k3⟩:=hp
     cases e with
     | normal =>
       obtain ⟨j,hj,hle⟩:=k3
       exact ih j (by omega) a'' E0 E2 (hst.trans k2) (k1.le hle)
     | _=>exact ⟨_,E2,rfl,k1,hst.trans k2,k3⟩
 exact fun a E hs=>wp_loop_rounds (m i + 1) (key (m i + 1) i (by omega) a E E (Step.refl E) (hs.le h0))
def postV (P : Program) (Q : AS → Prop) : List Fr → Exit → AS → Prop
 | [],e, σ=>(e = .normal ∨ e = .ret) ∧ Q σ
 | .seq y :: fs,e, σ=>match e with
   | .normal=>VP P y (postV P Q fs) σ
   | e=>postV P Q fs e σ
 | .blk id :: fs,e, σ=>match e with
   | .exit i=>if i = id then postV P Q fs .normal σ else postV P Q fs (.exit i) σ
   | e=>postV P Q fs e σ
 | .loop b :: fs,e, σ=>match e with
   | .normal=>b σ
   | e=>postV P Q fs e σ
structure V (P : Program) (Q : AS → Prop) (c : Code) (fs : List Fr) (σ : AS) : Prop where
 h : VP P c (postV P Q fs) σ
structure NV (P : Program) (Q : AS → Prop) (fs : List Fr) (σ : AS) : Prop where
 h : postV P Q fs .normal σ
structure XV (P : Program) (Q : AS → Prop) (i : Nat) (fs : List Fr) (σ : AS) : Prop where
 h : postV P Q fs (.exit i) σ
variable {Q : AS → Prop}
theorem postV_ret : ∀ (fs : List Fr) (σ : AS),Q σ → postV P Q fs .ret σ
 | [],_,h=>⟨.inr rfl,h⟩
 | .seq _ :: fs, σ,h=>postV_ret fs σ h
 | .blk _ :: fs, σ,h=>postV_ret fs σ h
 | .loop _ :: fs, σ,h=>postV_ret fs σ h
theorem NV.nil {σ : AS} (h : Q σ) : NV P Q [] σ := ⟨.inl rfl,h⟩
theorem NV.seq {y : Code} {fs : List Fr} {σ : AS} (h : V P Q y fs σ) : NV P Q (.seq y :: fs) σ := ⟨h.h⟩
theorem NV.blk {id : Nat} {fs : List Fr} {σ : AS} (h : NV P Q fs σ) : NV P Q (.blk id :: fs) σ := ⟨h.h⟩
theorem NV.loop {b : AS → Prop} {fs : List Fr} {σ : AS} (h : b σ) : NV P Q (.loop b :: fs) σ := ⟨h⟩
theorem XV.seq {i : Nat} {y : Code} {fs : List Fr} {σ : AS} (h : XV P Q i fs σ) : XV P Q i (.seq y :: fs) σ := ⟨h.h⟩
theorem XV.loop {i : Nat} {b : AS → Prop} {fs : List Fr} {σ : AS} (h : XV P Q i fs σ) : XV P Q i (.loop b :: fs) σ := ⟨h.h⟩
theorem XV.hit {i : Nat} {fs : List Fr} {σ : AS} (h : NV P Q fs σ) : XV P Q i (.blk i :: fs) σ := by
 refine ⟨?_⟩
 simp only [postV,if_true]
 exact h.h
theorem XV.pass {i j : Nat} {fs : List Fr} {σ : AS} (hne : i ≠ j) (h : XV P Q i fs σ) : XV P Q i (.blk j :: fs) σ := by
 refine ⟨?_⟩
 simp only [postV,if_neg hne]
 exact h.h
theorem V.seq {c : Code} {fs : List Fr} {σ : AS} (hc : c = .seq (cL c) (cR c)) (h : V P Q (cL c) (.seq (cR c) :: fs) σ) : V P Q c fs σ := by
 refine ⟨?_⟩
 rw [hc]
 exact VP.seq (h.h.mono fun e σ h=>by cases e <;> exact h)
theorem V.block {c : Code} {fs : List Fr} {σ : AS} {id : Nat} (hc : c = .block id (cL c)) (h : V P Q (cL c) (.blk id :: fs) σ) : V P Q c fs σ := by
 refine ⟨?_⟩
 rw [hc]
 exact VP.block (h.h.mono fun e σ h=>by cases e <;> exact h)
theorem V.skip {c : Code} {fs : List Fr} {σ : AS} (hc : c = .skip) (h : NV P Q fs σ) : V P Q c fs σ := by
 refine ⟨?_⟩
 rw [hc]
 exact (WP.skip h.h).vp
theorem V.exit {c : Code} {fs : List Fr} {σ : AS} {i : Nat} (hc : c = .exit i) (h : XV P Q i fs σ) : V P Q c fs σ := by
 refine ⟨?_⟩
 rw [hc]
 exact (WP.exit h.h).vp
theorem V.ret {c : Code} {fs : List Fr} {σ : AS} (hc : c = .ret) (h : Q σ) : V P Q c fs σ := by
 refine ⟨?_⟩
 rw [hc]
 exact (WP.ret (postV_ret fs σ h)).vp
theorem V.cond {c : Code} {fs : List Fr} {σ : AS} {t : Nat} {b : Bool} (hc : c = .cond (.tmp t) (cL c) (cR c)) (hv : lk σ.tmps t = some (.bool b)) (ht : b = true → V P Q (cL c) fs σ) (hf : b = false → V P Q (cR c) fs σ) : V P Q c fs σ := by
 refine ⟨?_⟩
 rw [hc]
 exact VP.cond (by simp [AS.ev,hv]) (fun e=>(ht e).h) (fun e=>(hf e).h)
theorem V.condT {c : Code} {fs : List Fr} {σ : AS} {t : Nat} (hc : c = .cond (.tmp t) (cL c) (cR c)) (hv : lk σ.tmps t = some (.bool true)) (ht : V P Q (cL c) fs σ) : V P Q c fs σ :=
 V.cond hc hv (fun _=>ht) (fun h=>by cases h)
theorem V.condF {c : Code} {fs : List Fr} {σ : AS} {t : Nat} (hc : c = .cond (.tmp t) (cL c) (cR c)) (hv : lk σ.tmps t = some (.bool false)) (hf : V P Q (cR c) fs σ) : V P Q c fs σ :=
 V.cond hc hv (fun h=>by cases h) (fun _=>hf)
theorem V.region {specs : NL Spec} (hm : P.follows .mixedOrders = true) (hsp : ∀ p ∈ specs,FnC P p.1 p.2.fn) {c : Code} {fs : List Fr} {id : Nat} {ops : Array Oper} (hc : c = .region id ops false) {σ σ' : AS} {A : Prop}
   (hr : runL P (specOf specs) 0 ops ops.toList σ = some (σ',A)) (h : A → NV P Q fs σ') : V P Q c fs σ:=by
 refine ⟨?_⟩
 rw [hc]
 exact (WP.region (draw:=false) hm (specOf_ok hsp) hr fun hA=>(h hA).h).vp
theorem V.regionD {specs : NL Spec} (hm : P.follows .mixedOrders = true) (hsp : ∀ p ∈ specs,FnC P p.1 p.2.fn) {c : Code} {fs : List Fr} {id : Nat} {ops : Array Oper} (hc : c = .region id ops true) {σ σ' : AS} {fps : List FP} {rw' : List (List Nat × List Nat)}
   (hr : runF P (specOf specs) 0 ops ops.toList σ = some (σ',fps)) (hrw : (fps.map fun f=>(f.rd,f.wr)) = rw') (ho : drawOK ops rw' = true) (h : asAll fps → NV P Q fs σ') : V P Q c fs σ:=by
 refine ⟨?_⟩
 rw [hc]
 refine (WP.region (kk:=0) hm (specOf_ok hsp) (A:=asAll fps) ?_ fun hA=>(h hA).h).vp
 subst hrw
 unfold drawOK at ho
 simp only [runR,runD]
 split at ho
 · rename_i l hl
   simp only [hl,hr]
   rw [if_pos]
   rw [← ho]
   congr 1
   funext p
   rw [fp_getD,fp_getD]
   rfl
 · cases ho
theorem V.loop {c : Code} {fs : List Fr} {σ : AS} (hc : c = .loop (cL c)) {ι : Type} (J : ι → AS) (m : ι → Nat) (i : ι) (h0 : AS.le (J i) σ)
   (step : ∀ i,V P Q (cL c) (.loop (fun σ' => ∃ j,m j < m i ∧ AS.le (J j) σ') :: fs) (J i)) : V P Q c fs σ:=by
 refine ⟨?_⟩
 rw [hc]
 exact VP.loop J m (fun i=>(step i).h.mono fun e σ h=>by cases e <;> exact h) i h0
theorem V.weak {c : Code} {fs : List Fr} {σ σ' : AS} (hl : AS.le σ' σ) (h : V P Q c fs σ') : V P Q c fs σ := ⟨VP.weak hl h.h⟩
theorem V.caps {c : Code} {fs : List Fr} {n t id g off len : Nat} {ts : NL AV} {H : NL ABlk} {blk : ABlk} (ht : lk ts t = some (.sl id g off len)) (hb : lk H id = some blk) (hg : blk.gen = g)
   (h : ∀ cap,len ≤ cap → cap ≤ maxLen → V P Q c fs ⟨n,(t, .slc id g off len cap) :: ts,H⟩) : V P Q c fs ⟨n,ts,H⟩:=by
 refine ⟨fun a E hs=>?_⟩
 obtain ⟨v,hv,hx⟩:=hs.tmps t _ ht
 simp only [Rep] at hx
 obtain ⟨b,ad,len',cap,h1,h2,h3,h4⟩:=hx
 have hbb : b = blk:=by
   have : E.H id = some blk:=by rw [hs.heap]; exact hb
   rw [this] at h1; cases h1; rfl
 subst hbb
 obtain ⟨k1,k2,k3,k4,k5⟩:=h4 hg
 refine (h cap k3 k4).h a E ⟨hs.heap,hs.hr,hs.defers,hs.size,fun t' x hx=>?_⟩
 simp only [lk] at hx
 split at hx
 · rename_i e
   subst e
   simp only [Option.some.injEq] at hx
   subst hx
   refine ⟨v,hv, ?_⟩
   simp only [Rep]
   exact ⟨b,ad,len',cap,h1,h2,h3,fun _=>⟨k1,k2,rfl,k3,k4,k5⟩,k2,rfl,k3,k4⟩
 · exact hs.tmps t' x hx
end
end Go.Abs
namespace Go.Abs
open Go
set_option linter.unusedSimpArgs false
set_option linter.unusedVariables false
section
variable {P : Program}
theorem FnC.walkM {α : Type} {enc : α → List AV × List ABlk} {res : α → AV × List ABlk} (f : FuncId) {fn : Func} (hf : P.funcs[f]? = some fn) (hb : fn.body = some (codeOf fn)) (hname : (fn.name == "runtime.NumGoroutine") = false)
   (hg : ∀ x, ∀ b ∈ (enc x).2,b.gen = 0) (h : ∀ x,W P (RetM P fn (enc x).2.length (res x).1 (res x).2) (codeOf fn) [] (init2 fn (enc x).1 (enc x).2)) : FnC P f (mkS2 enc res):=by
 refine ⟨⟨fn,hf,hname,by simp [hb]⟩,fun args B r B' hS E vs hH hr hx=>?_⟩
 unfold mkS2 at hS
 split at hS
 · rename_i hex
   simp only [Option.some.injEq] at hS
   have hw:=h hex.choose
   have hg':=hg hex.choose
   rw [hex.choose_spec,hS] at hw
   rw [hex.choose_spec] at hg'
   simp only at hw hg'
   have hsz : vs.size = args.length:=by have:=hx.length; simpa using this
   have hsr : SR (init2 fn args B) { tmps:=vs ++ Array.replicate (fn.ntmps - vs.size) undef,defers:=[] } E:=by
     refine ⟨by rw [hH]; funext i; simp [init2,lk_num],hr,rfl,by simp [init2,hsz],fun t x ht=>?_⟩
     simp only [init2,lk_num,Nat.zero_le,if_true,Nat.sub_zero] at ht
     obtain ⟨v,hv,hxv⟩:=hx.get ht
     refine ⟨v, ?_,hxv⟩
     have hlt : t < vs.size:=by rw [hsz]; exact (List.getElem?_eq_some_iff.1 ht).1
     rw [Array.getElem?_append_left hlt]
     simpa using hv
   refine calls_of_wp hf hb (wp_mono (hw.h.run hsr) fun e a' w' hp=>?_)
   obtain ⟨σ',E1,rfl,h1,h2,he,xs,hxs,fz,out,ho,exp,gs,q1,q1b,q2,q2b,q3,rfl⟩:=hp
   obtain ⟨v,g1,g2⟩:=resVs_run h1 hxs
   obtain ⟨E2,k1,k2,k3,k4,k5⟩:=frqT_run h1.heap h1.hr g2 ho
   obtain ⟨E3,m1,m2,m3,m4,m5⟩:=export_envM hH hg' k2 k3 (h2.trans k4) q1 q1b q2 q2b q3
   have hfinal : bodyPost P fn (fun e w' => ∃ v E',e = .returned v ∧ E'.w = w' ∧ E'.H = (fun i=>B'[i]?) ∧ HR E' ∧ Step E E' ∧ Rep E' (out.val.ren (expG exp gs out.H)) v) .ret a' E1.w :=
     ⟨h1.defers,v,g1,v,E3,rfl,m1.trans k1,m2,m3,m4,ren_rep m5 _ _ k5⟩
   rcases he with rfl | rfl
   · exact hfinal
   · exact hfinal
 · cases hS
theorem VP.env {c : Code} {Q : Exit → AS → Prop} {σ σ1 : AS} (h : ∀ a E,SR σ a E → ∃ E1,E1.w = E.w ∧ Step E E1 ∧ SR σ1 a E1) (h1 : VP P c Q σ1) : VP P c Q σ := fun a E hs => by
 obtain ⟨E1,e1,e2,e3⟩:=h a E hs
 rw [← e1]
 exact wp_mono (h1 a E1 e3) fun e a' w' ⟨σ',E',k1,k2,k3,k4⟩=>⟨σ',E',k1,k2,e2.trans k3,k4⟩
theorem V.env {c : Code} {Q : AS → Prop} {fs : List Fr} {σ σ1 : AS} (h : ∀ a E,SR σ a E → ∃ E1,E1.w = E.w ∧ Step E E1 ∧ SR σ1 a E1) (h1 : V P Q c fs σ1) : V P Q c fs σ := ⟨VP.env h h1.h⟩
theorem phantom_env {n t : Nat} {ts : NL AV} {H : NL ABlk} (id elem size : Nat) (inl : Bool) (ht : lk ts t = some .nils) (hid : lk H id = none) (h0 : 0 < size) :
   ∀ a E,SR ⟨n,ts,H⟩ a E → ∃ E1,E1.w = E.w ∧ Step E E1 ∧ SR ⟨n,(t, .sl id 0 0 0) :: ts,(id, { gen:=0,kind:=2,elem,size,inl,rows:=[] }) :: H⟩ a E1:=fun a E hs=>by
 have hn : E.H id = none:=by rw [hs.heap]; exact hid
 obtain ⟨h1,h2⟩:=hs.hr.phantom (id:=id) (blk:={ gen:=0,kind:=2,elem,size,inl,rows:=[] }) rfl (fun old ho=>by rw [hn] at ho; cases ho) h0 rfl
 refine ⟨⟨E.w,upd E.H id (some { gen:=0,kind:=2,elem,size,inl,rows:=[] }),E.φ,upd E.cs id 0,E.F⟩,rfl,h2, ?_,h1,hs.defers,hs.size,fun t' x hx=>?_⟩
 · funext i
   by_cases e : id = i
   · subst e; simp [lk,upd_same]
   · simp only [lk,upd_other _ _ _ e,hs.heap,if_neg e]
 · simp only [lk] at hx
   split at hx
   · rename_i e
     subst e
     simp only [Option.some.injEq] at hx
     subst hx
     obtain ⟨v,hv,hx⟩:=hs.tmps t _ ht
     simp only [Rep] at hx
     subst hx
     refine ⟨_,hv, ?_⟩
     simp only [Rep,upd_same]
     exact ⟨_,none,0,0,rfl,Nat.le_refl _,rfl,fun _=>⟨.inr rfl,rfl,Nat.le_refl _,Nat.zero_le _,fun h=>absurd h (by omega)⟩⟩
   · obtain ⟨v,hv,hx⟩:=hs.tmps t' x hx
     exact ⟨v,hv,Rep.mono h2 _ _ hx⟩
theorem V.phantom {c : Code} {Q : AS → Prop} {fs : List Fr} {n t : Nat} {ts : NL AV} {H : NL ABlk} (id elem size : Nat) (ht : lk ts t = some .nils) (hid : lk H id = none) (h0 : 0 < size)
   (h : V P Q c fs ⟨n,(t, .sl id 0 0 0) :: ts,(id, { gen:=0,kind:=2,elem,size,inl:=true,rows:=[] }) :: H⟩) : V P Q c fs ⟨n,ts,H⟩:=V.env (phantom_env id elem size true ht hid h0) h
theorem WP.env {c : Code} {Q : Exit → AS → Prop} {σ σ1 : AS} (h : ∀ a E,SR σ a E → ∃ E1,E1.w = E.w ∧ Step E E1 ∧ SR σ1 a E1) (h1 : WP P c Q σ1) : WP P c Q σ := fun ⟨a,E,hs⟩ => by
 obtain ⟨E1,e1,e2,e3⟩:=h a E hs
 obtain ⟨e, τ,hq,hx⟩:=h1 ⟨a,E1,e3⟩
 refine ⟨e, τ,hq,fun a E hs=>?_⟩
 obtain ⟨E1,e1,e2,e3⟩:=h a E hs
 rw [← e1]
 exact wp_mono (hx a E1 e3) fun e a' w' ⟨σ',E',k1,k2,k3,k4⟩=>⟨σ',E',k1,k2,e2.trans k3,k4⟩
theorem W.env {c : Code} {Q : AS → Prop} {fs : List Fr} {σ σ1 : AS} (h : ∀ a E,SR σ a E → ∃ E1,E1.w = E.w ∧ Step E E1 ∧ SR σ1 a E1) (h1 : W P Q c fs σ1) : W P Q c fs σ := ⟨WP.env h h1.h⟩
theorem frz_env {n t : Nat} {ts : NL AV} {H H' : NL ABlk} {x x' : AV} {rd wr : List Nat} {A : Prop} (ht : lk ts t = some x) (hf : (frqT true x).run H = some ⟨x',H',rd,wr,A⟩) :
   ∀ a E,SR ⟨n,ts,H⟩ a E → ∃ E1,E1.w = E.w ∧ Step E E1 ∧ SR ⟨n,(t,x') :: ts,H'⟩ a E1:=fun a E hs=>by
 obtain ⟨v,hv,hx⟩:=hs.tmps t _ ht
 obtain ⟨E1,h1,h2,h3,h4,h5⟩:=frqT_run hs.heap hs.hr hx hf
 refine ⟨E1,h1,h4,h2,h3,hs.defers,hs.size,fun t' y hy=>?_⟩
 simp only [lk] at hy
 split at hy
 · rename_i e
   subst e
   simp only [Option.some.injEq] at hy
   subst hy
   exact ⟨v,hv,h5⟩
 · obtain ⟨v,hv,hx⟩:=hs.tmps t' y hy
   exact ⟨v,hv,Rep.mono h4 _ _ hx⟩
theorem W.frz {c : Code} {Q : AS → Prop} {fs : List Fr} {n : Nat} (t : Nat) {ts : NL AV} {H H' : NL ABlk} {x x' : AV} {rd wr : List Nat} {A : Prop} (ht : lk ts t = some x) (hf : (frqT true x).run H = some ⟨x',H',rd,wr,A⟩)
   (h : W P Q c fs ⟨n,(t,x') :: ts,H'⟩) : W P Q c fs ⟨n,ts,H⟩:=W.env (frz_env ht hf) h
theorem V.frz {c : Code} {Q : AS → Prop} {fs : List Fr} {n : Nat} (t : Nat) {ts : NL AV} {H H' : NL ABlk} {x x' : AV} {rd wr : List Nat} {A : Prop} (ht : lk ts t = some x) (hf : (frqT true x).run H = some ⟨x',H',rd,wr,A⟩)
   (h : V P Q c fs ⟨n,(t,x') :: ts,H'⟩) : V P Q c fs ⟨n,ts,H⟩:=V.env (frz_env ht hf) h
theorem W.phantom {c : Code} {Q : AS → Prop} {fs : List Fr} {n t : Nat} {ts : NL AV} {H : NL ABlk} (id elem size : Nat) (inl : Bool) (ht : lk ts t = some .nils) (hid : lk H id = none) (h0 : 0 < size)
   (h : W P Q c fs ⟨n,(t, .sl id 0 0 0) :: ts,(id, { gen:=0,kind:=2,elem,size,inl,rows:=[] }) :: H⟩) : W P Q c fs ⟨n,ts,H⟩:=W.env (phantom_env id elem size inl ht hid h0) h
theorem V.uncap {c : Code} {Q : AS → Prop} {fs : List Fr} {n t id g off len cap : Nat} {ts : NL AV} {H : NL ABlk} (ht : lk ts t = some (.slc id g off len cap)) (h : V P Q c fs ⟨n,(t, .sl id g off len) :: ts,H⟩) : V P Q c fs ⟨n,ts,H⟩ := by
 refine V.env (fun a E hs=>⟨E,rfl,Step.refl E, ?_⟩) h
 refine ⟨hs.heap,hs.hr,hs.defers,hs.size,fun t' x hx=>?_⟩
 simp only [lk] at hx
 split at hx
 · rename_i e
   subst e
   simp only [Option.some.injEq] at hx
   subst hx
   obtain ⟨v,hv,hx⟩:=hs.tmps t _ ht
   refine ⟨v,hv, ?_⟩
   simp only [Rep] at hx ⊢
   obtain ⟨blk,a,len',cap',h1,h2,rfl,h3, -⟩:=hx
   refine ⟨blk,a,len',cap',h1,h2,rfl,fun hg=>?_⟩
   obtain ⟨k1,k2,rfl,k4⟩:=h3 hg
   exact ⟨k1,k2,k4⟩
 · exact hs.tmps t' x hx
theorem V.nilCase {c : Code} {Q : AS → Prop} {fs : List Fr} {n t s : Nat} {ts : NL AV} {H : NL ABlk} (id : Nat) (ht : lk ts t = some (.list s [])) (hid : lk H id = none)
   (h1 : V P Q c fs ⟨n,(t, .nils) :: ts,H⟩) (h2 : V P Q c fs ⟨n,(t, .psl id 0 0 0 0) :: ts,(id, { gen:=1 }) :: H⟩) : V P Q c fs ⟨n,ts,H⟩:=by
 refine ⟨fun a E hs=>?_⟩
 obtain ⟨v,hv,hx⟩:=hs.tmps t _ ht
 simp only [Rep,RepI] at hx
 rcases hx with ⟨rfl,_⟩ | ⟨ad,cap,rfl,_⟩
 · refine h1.h a E ⟨hs.heap,hs.hr,hs.defers,hs.size,fun t' x hx=>?_⟩
   simp only [lk] at hx
   split at hx
   · rename_i e
     subst e
     simp only [Option.some.injEq] at hx
     subst hx
     exact ⟨_,hv,rfl⟩
   · exact hs.tmps t' x hx
 · have hn : E.H id = none:=by rw [hs.heap]; exact hid
   have hst : Step E ⟨E.w,upd E.H id (some { gen:=1 }),E.φ,E.cs,E.F⟩:=by
     refine ⟨Nat.le_refl _,fun b _ _=>rfl,rfl,fun k b hb=>?_,fun k b' hb hk' hc'=>?_,Kept.refl _⟩
     · have e : id ≠ k:=fun e=>by subst e; rw [hn] at hb; cases hb
       exact ⟨b,by simp [upd_other _ _ _ e,hb],Nat.le_refl _,fun _ _=>⟨.inl rfl,rfl,rfl,rfl,rfl⟩⟩
     · by_cases e : id = k
       · subst e; simp only [upd_same,Option.some.injEq] at hb; subst hb; simp at hk'
       · exact .inl ⟨k,b',by simpa [upd_other _ _ _ e] using hb,hk',hc',rfl, .inl rfl⟩
   have hex : ∀ k b,upd E.H id (some { gen:=1 }) k = some b → b.kind ≠ 0 → E.H k = some b:=by
     intro k b h hk
     by_cases e : id = k
     · subst e; simp only [upd_same,Option.some.injEq] at h; subst h; exact absurd rfl hk
     · simpa [upd_other _ _ _ e] using h
   have hr' : HR ⟨E.w,upd E.H id (some { gen:=1 }),E.φ,E.cs,E.F⟩:=by
     refine ⟨fun k b hb=>?_,fun i j bi bj hi hj ki kj ci cj hne=>?_,fun k b hb hk hc=>?_,hs.hr.fb⟩
     · by_cases e : id = k
       · subst e
         simp only [upd_same,Option.some.injEq] at hb
         subst hb
         simp [BlkOK]
       · simp only [upd_other _ _ _ e] at hb
         exact BlkOK.mono hst rfl rfl (fun _ _=>rfl) (hs.hr.blk k b hb)
     · exact hs.hr.inj i j bi bj (hex i bi hi ki) (hex j bj hj kj) ki kj ci cj hne
     · exact hs.hr.nf k b (hex k b hb hk) hk hc
   have:=h2.h a ⟨E.w,upd E.H id (some { gen:=1 }),E.φ,E.cs,E.F⟩ ⟨?_,hr',hs.defers,hs.size,fun t' x hx=>?_⟩
   · exact wp_mono this fun e a' w' ⟨σ',E',k1,k2,k3,k4⟩=>⟨σ',E',k1,k2,hst.trans k3,k4⟩
   · funext i
     by_cases e : id = i
     · subst e; simp [lk,upd_same]
     · simp only [lk,upd_other _ _ _ e,hs.heap,if_neg e]
   · simp only [lk] at hx
     split at hx
     · rename_i e
       subst e
       simp only [Option.some.injEq] at hx
       subst hx
       refine ⟨_,hv, ?_⟩
       simp only [Rep,upd_same]
       exact ⟨_,_,_,rfl,Nat.zero_le _,rfl,fun h=>by simp at h⟩
     · obtain ⟨v,hv,hx⟩:=hs.tmps t' x hx
       exact ⟨v,hv,Rep.mono hst _ _ hx⟩
end
section
variable {P : Program}
theorem FnC.ofV {S : SpecFn} (f : FuncId) {fn : Func} (hf : P.funcs[f]? = some fn) (hb : fn.body = some (codeOf fn)) (hname : (fn.name == "runtime.NumGoroutine") = false)
   (h : ∀ args B r B',S args B = some (r,B') → (∀ b ∈ B,b.gen = 0) ∧ V P (RetM P fn B.length r B') (codeOf fn) [] (init2 fn args B)) : FnC P f S:=by
 refine ⟨⟨fn,hf,hname,by simp [hb]⟩,fun args B r B' hS E vs hH hr hx=>?_⟩
 obtain ⟨hg',hw⟩:=h args B r B' hS
 have hsz : vs.size = args.length:=by have:=hx.length; simpa using this
 have hsr : SR (init2 fn args B) { tmps:=vs ++ Array.replicate (fn.ntmps - vs.size) undef,defers:=[] } E:=by
   refine ⟨by rw [hH]; funext i; simp [init2,lk_num],hr,rfl,by simp [init2,hsz],fun t x ht=>?_⟩
   simp only [init2,lk_num,Nat.zero_le,if_true,Nat.sub_zero] at ht
   obtain ⟨v,hv,hxv⟩:=hx.get ht
   refine ⟨v, ?_,hxv⟩
   have hlt : t < vs.size:=by rw [hsz]; exact (List.getElem?_eq_some_iff.1 ht).1
   rw [Array.getElem?_append_left hlt]
   simpa using hv
 refine calls_of_wp hf hb (wp_mono (hw.h _ _ hsr) fun e a' w' hp=>?_)
 obtain ⟨σ',E1,rfl,h1,h2,he,xs,hxs,fz,out,ho,exp,gs,q1,q1b,q2,q2b,q3,rfl⟩:=hp
 obtain ⟨v,g1,g2⟩:=resVs_run h1 hxs
 obtain ⟨E2,k1,k2,k3,k4,k5⟩:=frqT_run h1.heap h1.hr g2 ho
 obtain ⟨E3,m1,m2,m3,m4,m5⟩:=export_envM hH hg' k2 k3 (h2.trans k4) q1 q1b q2 q2b q3
 have hfinal : bodyPost P fn (fun e w' => ∃ v E',e = .returned v ∧ E'.w = w' ∧ E'.H = (fun i=>B'[i]?) ∧ HR E' ∧ Step E E' ∧ Rep E' (out.val.ren (expG exp gs out.H)) v) .ret a' E1.w :=
   ⟨h1.defers,v,g1,v,E3,rfl,m1.trans k1,m2,m3,m4,ren_rep m5 _ _ k5⟩
 rcases he with rfl | rfl
 · exact hfinal
 · exact hfinal
theorem V.cut {c : Code} {Q : AS → Prop} {fs : List Fr} {σ : AS} (hc : c = .seq (cL c) (cR c)) (M : AS → Prop) (h1 : V P Q (cL c) (.loop M :: fs) σ) (h2 : ∀ σ',M σ' → V P Q (cR c) fs σ') : V P Q c fs σ := by
 refine ⟨?_⟩
 rw [hc]
 refine VP.seq (h1.h.mono fun e σ h=>?_)
 cases e with
 | normal=>exact (h2 σ h).h
 | _=>exact h
theorem V.slNil {c : Code} {Q : AS → Prop} {fs : List Fr} {n t id g off : Nat} {ts : NL AV} {H : NL ABlk} {blk : ABlk} (id' : Nat) (ht : lk ts t = some (.sl id g off 0)) (hb : lk H id = some blk) (hg : blk.gen = g) (hid : lk H id' = none)
   (h1 : V P Q c fs ⟨n,(t, .nils) :: ts,H⟩) (h2 : V P Q c fs ⟨n,(t, .psl id' 0 0 0 0) :: ts,(id', { gen:=1 }) :: H⟩) : V P Q c fs ⟨n,ts,H⟩:=by
 have dup : ∀ (y : AV) (H' : NL ABlk),AS.le ⟨n,(t,y) :: ts,H'⟩ ⟨n,(t,y) :: (t, .list blk.size []) :: ts,H'⟩:=fun y H'=>⟨rfl,fun t' x hx=>⟨x,by
   simp only [lk] at hx ⊢
   split at hx
   · rename_i e; rw [if_pos e]; exact hx
   · rename_i e; rw [if_neg e,if_neg e]; exact hx,fun _ _ h=>h⟩,fun _=>rfl⟩
 have k : V P Q c fs ⟨n,(t, .list blk.size []) :: ts,H⟩:=V.nilCase (s:=blk.size) id' (by simp [lk]) hid (V.weak (dup _ _) h1) (V.weak (dup _ _) h2)
 refine V.env (fun a E hs=>⟨E,rfl,Step.refl E, ?_⟩) k
 · refine ⟨hs.heap,hs.hr,hs.defers,hs.size,fun t' x hx=>?_⟩
   simp only [lk] at hx
   split at hx
   · rename_i e
     subst e
     simp only [Option.some.injEq] at hx
     subst hx
     obtain ⟨v,hv,hx⟩:=hs.tmps t _ ht
     refine ⟨v,hv, ?_⟩
     simp only [Rep] at hx
     obtain ⟨b,a,len',cap,k1,k2,rfl,k3⟩:=hx
     have hbb : b = blk:=by
       have : E.H id = some blk:=by rw [hs.heap]; exact hb
       rw [this] at k1; cases k1; rfl
     subst hbb
     obtain ⟨_,rfl,k4,k5,k6⟩:=k3 hg
     simp only [Rep,RepI]
     cases a with
     | none =>
       rcases Nat.eq_zero_or_pos cap with q | q
       · subst q; exact .inl ⟨rfl,trivial⟩
       · exact absurd (k6 q).1 (by simp)
     | some ad=>exact .inr ⟨ad,cap,rfl,k4,k5,fun h=>absurd rfl h,by simp only [RepRows]⟩
   · exact hs.tmps t' x hx
theorem V.shrink {c : Code} {Q : AS → Prop} {fs : List Fr} {n t id g k : Nat} {ts : NL AV} {H : NL ABlk} {blk : ABlk} (ht : lk ts t = some (.sl id g 0 k)) (hb : lk H id = some blk) (hg : blk.gen = g) (hk : blk.kind = 2)
   (h : V P Q c fs ⟨n,(t, .sl id (g + 1) 0 k) :: ts,st H id { blk with gen:=g + 1,rows:=blk.rows.take k }⟩) : V P Q c fs ⟨n,ts,H⟩:=by
 refine V.env (fun a E hs=>?_) h
 have hbE : E.H id = some blk:=by rw [hs.heap]; exact hb
 obtain ⟨q1,q2⟩:=hs.hr.shrink hbE hk k
 refine ⟨⟨E.w,upd E.H id (some { blk with gen:=blk.gen + 1,rows:=blk.rows.take k }),E.φ,E.cs,E.F⟩,rfl,q2, ?_,q1,hs.defers,hs.size,fun t' x hx=>?_⟩
 · subst hg
   show upd E.H id _ = lk (st H id _)
   rw [lk_st_upd, ← hs.heap]
 · simp only [lk] at hx
   split at hx
   · rename_i e
     subst e
     simp only [Option.some.injEq] at hx
     subst hx
     obtain ⟨v,hv,hx⟩:=hs.tmps t _ ht
     refine ⟨v,hv, ?_⟩
     simp only [Rep] at hx
     obtain ⟨b,a,len',cap,k1,k2,rfl,k3⟩:=hx
     rw [hbE] at k1; cases k1
     obtain ⟨j1,j2,j3,j4,j5⟩:=k3 hg
     simp only [Rep,upd_same]
     exact ⟨_,a,len',cap,rfl,by simp [hg],rfl,fun _=>⟨.inr hk,j2,j3,j4,j5⟩⟩
   · obtain ⟨v,hv,hx⟩:=hs.tmps t' x hx
     exact ⟨v,hv,Rep.mono q2 _ _ hx⟩
def okB (elem size : Nat) (b : ABlk) : Bool := b.gen == 0 && b.kind == 2 && b.elem == elem && b.size == size && b.inl
theorem okB_eq {elem size : Nat} {b : ABlk} (h : okB elem size b = true) : b = { gen := 0,kind := 2,elem,size,inl := true,rows := b.rows } := by
 obtain ⟨a,b,c,d,e,f⟩:=b
 simp only [okB,Bool.and_eq_true,beq_iff_eq] at h
 obtain ⟨⟨⟨⟨rfl,rfl⟩,rfl⟩,rfl⟩,rfl⟩:=h
 rfl
def rowB (elem size g : Nat) (rows : List (List AV)) : ABlk := { gen := g,kind := 2,elem,size,inl := true,rows }
def cloneC (elem size bytes : Nat) : SpecFn := fun args B => match args,B with
 | [.nils],[]=>some (.nils,[])
 | [.list s rows],[]=>if s = size ∧ rows.length * bytes ≤ 140737488355328 ∧ rows.length ≤ 9223372036854775807 ∧ rows.length ≤ maxLen then some (.sl 0 0 0 rows.length,[rowB elem size 0 rows]) else none
 | [.sl 0 0 0 len],[b]=>if okB elem size b = true ∧ len = b.rows.length ∧ len * bytes ≤ 140737488355328 ∧ len ≤ maxLen then some (.sl 1 0 0 len,[b,rowB elem size 0 b.rows]) else none
 | _,_=>none
def deleteC (elem size : Nat) : SpecFn := fun args B => match args,B with
 | [.sl 0 0 0 len, .int .i64 i, .int .i64 j],[b]=>if okB elem size b = true ∧ len = b.rows.length ∧ len ≤ 1000000 ∧ 0 ≤ i ∧ i < j ∧ j ≤ len then
     some (.sl 0 1 0 (i.toNat + (len - j.toNat)),[rowB elem size 1 (b.rows.take i.toNat ++ b.rows.drop j.toNat)]) else none
 | _,_=>none
def insertC (elem size bytes : Nat) : SpecFn := fun args B => match args,B with
 | [.sl 0 0 0 len, .int .i64 i, .sl 1 0 0 1],[b,c]=>if okB elem size b = true ∧ okB elem size c = true ∧ len = b.rows.length ∧ c.rows.length = 1 ∧ (len + 1) * bytes ≤ 140737488355328 ∧ len ≤ 1000000 ∧ 0 ≤ i ∧ i ≤ len then
     some (.sl 0 1 0 (len + 1),[rowB elem size 1 (b.rows.take i.toNat ++ c.rows ++ b.rows.drop i.toNat),c]) else none
 | _,_=>none
theorem delete_rows {α : Type} {l Z R D : List α} {i j m : Nat} (hi : i < j) (hj : j ≤ l.length) (hm : i + (l.length - j) = m) :
   (((l.take i ++ ((l.drop j).take (l.length - j) ++ D)).take m) ++ (Z ++ R)).take m = l.take i ++ l.drop j:=by
 have h1 : (l.take i).length = i:=by rw [List.length_take]; omega
 have h2 : (l.drop j).length = l.length - j:=List.length_drop
 have h3 : (l.take i ++ l.drop j).length = m:=by rw [List.length_append,h1,h2,hm]
 have h4 : ∀ (A B : List α) (n : Nat),A.length = n → (A ++ B).take n = A:=fun A B n h=>by rw [← h,List.take_left']; rfl
 have h5 : (l.drop j).take (l.length - j) = l.drop j:=by rw [← h2,List.take_length]
 have h6 : l.take i ++ (l.drop j ++ D) = (l.take i ++ l.drop j) ++ D:=(List.append_assoc ..).symm
 rw [h5,h6,h4 _ D _ h3,h4 _ _ _ h3]
def freezeH : NL ABlk → List Nat → NL ABlk
 | H,[]=>H
 | H,i :: r=>match lk H i with
   | some b=>if b.kind = 2 then freezeH (st H i { b with kind:=1 }) r else freezeH H r
   | none=>freezeH H r
theorem freezeH_env : ∀ (ids : List Nat) {H : NL ABlk} {E : Env},E.H = lk H → HR E → ∃ E1,E1.w = E.w ∧ E1.H = lk (freezeH H ids) ∧ HR E1 ∧ Step E E1
 | [],H,E,hH,hr=>⟨E,rfl,hH,hr,Step.refl E⟩
 | i :: r,H,E,hH,hr=>by
   simp only [freezeH]
   split
   · rename_i b hb
     split
     · rename_i hk
       obtain ⟨q1,q2⟩:=hr.freeze (id:=i) (by rw [hH]; exact hb) hk
       obtain ⟨E2,f1,f2,f3,f4⟩:=freezeH_env r (H:=st H i { b with kind:=1 }) (E:=⟨E.w,upd E.H i (some { b with kind:=1 }),E.φ,E.cs,E.F⟩) (by rw [lk_st_upd,hH]) q1
       exact ⟨E2,f1,f2,f3,q2.trans f4⟩
     · exact freezeH_env r hH hr
   · exact freezeH_env r hH hr
def pureS (S : SpecFn) : SpecFn := fun args B => match B with
 | []=>match S args [] with
   | some (r,B')=>if inlT (nzT (freezeH (num 0 B') (List.range B'.length)) r) = true then some (nzT (freezeH (num 0 B') (List.range B'.length)) r,[]) else none
   | none=>none
 | _=>none
theorem FnC.pure {S : SpecFn} {f : FuncId} (hf : FnC P f S) : FnC P f (pureS S) := by
 refine ⟨hf.1,fun args B r B' hS E vs hH hr hx=>?_⟩
 unfold pureS at hS
 split at hS
 · split at hS
   · rename_i r0 B0 h0
     split at hS
     · rename_i hi
       simp only [Option.some.injEq,Prod.mk.injEq] at hS
       obtain ⟨rfl,rfl⟩:=hS
       refine (hf.calls args [] r0 B0 h0 E vs hH hr hx).mono fun e w' ⟨v,E1,h1,h2,h3,h4,h5,h6⟩=>?_
       have hE0 : E.H = fun _=>none:=by rw [hH]; funext i; simp
       obtain ⟨E2,k1,k2,k3,k4⟩:=freezeH_env (List.range B0.length) (H:=num 0 B0) (E:=E1) (by rw [h3]; funext i; simp [lk_num]) h4
       have hx2:=nzT_rep k2 k3 (Rep.mono k4 _ _ h6)
       have hI:=inlT_rep hi hx2
       have hs:=h5.trans k4
       have hold : ∀ b,b < E.w.heap.size → E2.w.heap[b]? = E.w.heap[b]?:=fun b hb=>hs.old b hb (fun id blk h=>by simp [hE0] at h)
       refine ⟨v,⟨E2.w,fun _=>none,E2.φ,E2.cs,E2.F⟩,h1,k1.trans h2,by funext i; simp,⟨fun _ _ h=>by simp at h,fun _ _ _ _ h=>by simp at h,fun _ _ h=>by simp at h,k3.fb⟩,⟨hs.size,fun b hb _=>hold b hb,hs.fo,fun id blk h=>by simp [hE0] at h,fun _ _ h=>by simp at h,hs.kept⟩, ?_⟩
       exact RepI.rep _ _ (RepI.mono (fun b hb=>⟨⟨hb.1,hb.2.1,fun _ _ h=>by simp at h⟩,rfl⟩) _ _ hI)
     · cases hS
   · cases hS
 · cases hS
theorem W.zero {c : Code} {Q : AS → Prop} {fs : List Fr} {σ : AS} (hc : c = .loop (cL c)) (h : W P Q (cL c) (.loop (fun _ => False) :: fs) σ) : W P Q c fs σ :=
 W.loop hc (ι:=Unit) (fun _ => σ) (fun _=>0) () (AS.le_refl σ) fun _=>⟨h.h.mono fun e σ' hp=>by
   cases e with
   | normal=>simp only [post] at hp
   | _=>exact hp⟩
@[simp] theorem w64_n0 : IntKind.i64.wrap 0 = 0 := by decide
@[simp] theorem w64_n1 : IntKind.i64.wrap 1 = 1 := by decide
@[simp] theorem w64_n2 : IntKind.i64.wrap 2 = 2 := by decide
@[simp] theorem w64_n3 : IntKind.i64.wrap 3 = 3 := by decide
@[simp] theorem w64_n4 : IntKind.i64.wrap 4 = 4 := by decide
@[simp] theorem w64_m1 : IntKind.i64.wrap (-1) = -1 := by decide
end
end Go.Abs
namespace Go.Abs
open Go Go.ChangeShapes Go.WideShapes Go.Deep
set_option linter.unusedVariables false
set_option linter.unusedSimpArgs false
section
def tileB (P : Program) : List Field → Nat → Nat → Bool
 | [],o,tot=>o == tot
 | f :: r,o,tot=>f.offset == o && tileB P r (o + P.cellsOf f.type) tot
def plainT (P : Program) : Nat → TypeId → Bool
 | 0,_=>false
 | n + 1,t=>match P.underlying t with
   | some .bool=>P.cellsOf t == 1
   | some (.int _)=>P.cellsOf t == 1
   | some .string=>P.cellsOf t == 1
   | some (.slice e)=>P.cellsOf t == 1 && decide (0 < P.cellsOf e) && plainT P n e
   | some (.struct fs)=>tileB P fs.toList 0 (P.cellsOf t) && fs.toList.all fun f=>plainT P n f.type
   | some (.array m e)=>P.cellsOf t == m * P.cellsOf e && plainT P n e
   | _=>false
def TyFs (q : TypeId → List AV → Prop) : List TypeId → List AV → Prop
 | [],xs=>xs = []
 | t :: r,xs => ∃ a b,xs = a ++ b ∧ q t a ∧ TyFs q r b
def TyR (P : Program) : Nat → TypeId → List AV → Prop
 | 0,_,_=>False
 | n + 1,t,xs=>match P.underlying t with
   | some .bool => ∃ b,xs = [.bool b]
   | some (.int k) => ∃ m,xs = [.int k m] ∧ (Lit.int k m).wf = true
   | some .string => ∃ s : ByteArray,xs = [.str s] ∧ s.size ≤ maxLen
   | some (.slice e) => ∃ rows,xs = [.list (P.cellsOf e) rows] ∧ rows.length ≤ maxLen ∧ ∀ row ∈ rows,TyR P n e row
   | some (.struct fs)=>TyFs (TyR P n) (fs.toList.map (·.type)) xs
   | some (.array m e)=>TyFs (TyR P n) (List.replicate m e) xs
   | _=>False
theorem RepIL.append {w : World} {I : Nat → Prop} : ∀ {xs ys : List AV} {us vs : List Value},RepIL w I xs us → RepIL w I ys vs → RepIL w I (xs ++ ys) (us ++ vs)
 | [],ys,us,vs,h1,h2=>by
   simp only [RepIL] at h1
   subst h1
   exact h2
 | x :: r,ys,us,vs,h1,h2=>by
   simp only [RepIL] at h1
   obtain ⟨v,us',rfl,h3,h4⟩:=h1
   simp only [List.cons_append,RepIL]
   exact ⟨v,us' ++ vs,rfl,h3,RepIL.append h4 h2⟩
theorem pieces_rep {w : World} {I : Nat → Prop} {q : TypeId → List AV → Prop} {size : TypeId → Nat} {cs : List Value} : ∀ (ps : List (TypeId × Nat)) (o : Nat),(∀ p ∈ ps, ∃ xs,q p.1 xs ∧ RepIL w I xs ((cs.drop p.2).take (size p.1))) →
   (∀ (i : Nat) (p : TypeId × Nat),ps[i]? = some p → p.2 = o + ((ps.take i).map fun p=>size p.1).sum) → o + (ps.map fun p=>size p.1).sum = cs.length → ∃ xs,TyFs q (ps.map (·.1)) xs ∧ RepIL w I xs (cs.drop o)
 | [],o,_,_,hl=>by
   refine ⟨[],rfl, ?_⟩
   simp only [List.map_nil,List.sum_nil,Nat.add_zero] at hl
   rw [List.drop_of_length_le (by omega)]
   simp [RepIL]
 | p :: r,o,h,ho,hl=>by
   obtain ⟨a,h1,h2⟩:=h p (by simp)
   have hp:=ho 0 p (by simp)
   simp only [List.take_zero,List.map_nil,List.sum_nil,Nat.add_zero] at hp
   obtain ⟨b,h3,h4⟩:=pieces_rep r (o + size p.1) (fun p hp=>h p (by simp [hp])) (fun i q' hq=>by
     have:=ho (i + 1) q' (by simpa using hq)
     simp only [List.take_succ_cons,List.map_cons,List.sum_cons] at this
     omega) (by simp only [List.map_cons,List.sum_cons] at hl; omega)
   refine ⟨a ++ b,⟨a,b,rfl,h1,h3⟩, ?_⟩
   rw [hp] at h2
   have:=RepIL.append h2 h4
   rwa [← List.drop_drop,List.take_append_drop] at this
theorem list_choice {α : Type} {Q : Nat → α → Prop} : ∀ (n : Nat),(∀ i,i < n → ∃ x,Q i x) → ∃ l : List α,l.length = n ∧ ∀ i x,l[i]? = some x → Q i x
 | 0,_=>⟨[],rfl,by simp⟩
 | n + 1,h=>by
   obtain ⟨l,h1,h2⟩:=list_choice n fun i hi=>h i (by omega)
   obtain ⟨x,hx⟩:=h n (by omega)
   refine ⟨l ++ [x],by simp [h1],fun i y hy=>?_⟩
   by_cases hi : i < n
   · rw [List.getElem?_append_left (by omega)] at hy
     exact h2 i y hy
   · rw [List.getElem?_append_right (by omega)] at hy
     have : i = n:=by
       have:=(List.getElem?_eq_some_iff.1 hy).1
       simp only [List.length_cons,List.length_nil] at this
       omega
     subst this
     simp only [h1,Nat.sub_self,List.getElem?_cons_zero,Option.some.injEq] at hy
     subst hy
     exact hx
theorem tile_sum {P : Program} : ∀ (fs : List Field) (o tot : Nat),tileB P fs o tot = true → o + (fs.map fun f => P.cellsOf f.type).sum = tot ∧ ∀ (i : Nat) (f : Field),fs[i]? = some f → f.offset = o + ((fs.take i).map fun f => P.cellsOf f.type).sum
 | [],o,tot,h=>by
   simp only [tileB,beq_iff_eq] at h
   simp [h]
 | f :: r,o,tot,h=>by
   simp only [tileB,Bool.and_eq_true,beq_iff_eq] at h
   obtain ⟨h1,h2⟩:=tile_sum r _ _ h.2
   refine ⟨by simp only [List.map_cons,List.sum_cons]; omega,fun i g hg=>?_⟩
   cases i with
   | zero =>
     simp only [List.getElem?_cons_zero,Option.some.injEq] at hg
     subst hg
     simp [h.1]
   | succ i =>
     simp only [List.getElem?_cons_succ] at hg
     have:=h2 i g hg
     simp only [List.take_succ_cons,List.map_cons,List.sum_cons]
     omega
theorem RepIL.len {w : World} {I : Nat → Prop} : ∀ {xs : List AV} {vs : List Value},RepIL w I xs vs → xs.length = vs.length
 | [],_,h=>by simp only [RepIL] at h; subst h; rfl
 | x :: r,_,h=>by
   simp only [RepIL] at h
   obtain ⟨v,vs',rfl,_,h2⟩:=h
   simp [RepIL.len h2]
theorem RepIL.at {w : World} {I : Nat → Prop} : ∀ {xs : List AV} {vs : List Value},RepIL w I xs vs → ∀ {i : Nat} {x : AV},xs[i]? = some x → ∃ v,vs[i]? = some v ∧ RepI w I x v
 | [],_,_,i,x,hx=>by simp at hx
 | x :: r,_,h,i,y,hy=>by
   simp only [RepIL] at h
   obtain ⟨v,vs',rfl,h1,h2⟩:=h
   cases i with
   | zero =>
     simp only [List.getElem?_cons_zero,Option.some.injEq] at hy
     subst hy
     exact ⟨v,rfl,h1⟩
   | succ i=>simpa using RepIL.at h2 (by simpa using hy)
theorem sum_rep (n c : Nat) : (List.replicate n c).sum = n * c := by
 induction n with
 | zero=>simp
 | succ n ih=>rw [List.replicate_succ,List.sum_cons,ih,Nat.succ_mul]; omega
def AV.plain : AV → Bool
 | .bool _ | .int _ _ | .str _ | .list _ _=>true
 | _=>false
theorem plain_one {w : World} {I : Nat → Prop} {x : AV} {v : Value} (h : x.plain = true) (hx : RepI w I x v) : v.oneCell' = true := by
 cases x <;> simp only [AV.plain] at h <;> try (cases h)
 all_goals simp only [RepI] at hx
 case list size rows=>rcases hx with ⟨rfl,_⟩ | ⟨a,cap,rfl,_⟩ <;> rfl
 all_goals (subst hx; rfl)
theorem TyFs.all {q : TypeId → List AV → Prop} (hq : ∀ t xs,q t xs → xs.all AV.plain = true) : ∀ (ts : List TypeId) (xs : List AV),TyFs q ts xs → xs.all AV.plain = true
 | [],xs,h=>by simp only [TyFs] at h; subst h; rfl
 | t :: r,xs,h=>by
   simp only [TyFs] at h
   obtain ⟨a,b,rfl,h1,h2⟩:=h
   rw [List.all_append,hq t a h1,TyFs.all hq r b h2]
   rfl
theorem TyR.all {P : Program} : ∀ (n : Nat) (t : TypeId) (xs : List AV),TyR P n t xs → xs.all AV.plain = true
 | 0,_,_,h=>h.elim
 | n + 1,t,xs,h=>by
   unfold TyR at h
   split at h
   · obtain ⟨b,rfl⟩:=h; rfl
   · obtain ⟨m,rfl,_⟩:=h; rfl
   · obtain ⟨s,rfl,_⟩:=h; rfl
   · obtain ⟨rows,rfl,_⟩:=h; rfl
   · exact TyFs.all (fun t xs h=>TyR.all n t xs h) _ _ h
   · exact TyFs.all (fun t xs h=>TyR.all n t xs h) _ _ h
   · exact h.elim
theorem trod_rep {H : Type} {enc : TypeId × Value → H} {P : Program} {w : World} {base : Nat} {spare : Nat → Bool} {held : Bool} : ∀ (n : Nat) (t : TypeId) (fuel : Nat) (cs : List Value) (x : DataW H × List MemPlace),plainT P n t = true →
   DataW.trod enc P w base spare held fuel t cs = some x → cs.length = P.cellsOf t ∧ ∃ xs,TyR P n t xs ∧ RepIL w (fun b=>b < w.heap.size) xs cs
 | 0,_,_,_,_,h,_=>by simp [plainT] at h
 | n + 1, t, fuel, cs, x, h, ht => by
   unfold plainT at h
   unfold TyR
   split at h
   · rename_i hu
     obtain ⟨b,rfl,_⟩:=DataW.trod_bool hu ht
     exact ⟨by simpa using Eq.symm (beq_iff_eq.1 h),[.bool b],⟨b,rfl⟩,by simp [RepIL,RepI]⟩
   · rename_i k hu
     obtain ⟨m,rfl,_,hwf⟩:=DataW.trod_int hu ht
     exact ⟨by simpa using Eq.symm (beq_iff_eq.1 h),[.int k m],⟨m,rfl,hwf⟩,by simp [RepIL,RepI]⟩
   · rename_i hu
     obtain ⟨s,rfl,_,hs⟩:=DataW.trod_string hu ht
     exact ⟨by simpa using Eq.symm (beq_iff_eq.1 h),[.str s],⟨s,rfl,hs⟩,by simp [RepIL,RepI]⟩
   · rename_i e hu
     simp only [Bool.and_eq_true,beq_iff_eq,decide_eq_true_eq] at h
     obtain ⟨⟨h1,h2⟩,h3⟩:=h
     rcases open_slice hu ht with ⟨rfl,_⟩ | ⟨a,len,cap,m,k,D,Pl,rfl,hb,hl,hm,hmm,_,hel⟩
     · exact ⟨by simpa using h1.symm,[.list (P.cellsOf e) []],⟨[],rfl,Nat.zero_le _,by simp⟩,by simp [RepIL,RepI]⟩
     · have hlm : len ≤ m:=by rw [hmm]; split <;> omega
       have hspot0 : 0 < len → a.spot = none ∧ a.block < w.heap.size:=fun h0=>by
         obtain ⟨cs',hc,ht'⟩:=hel 0 (by omega)
         obtain ⟨_,hcl,hat⟩:=World.cells?_some hc
         have h0 : w.cell? ((a.add (0 * P.cellsOf e)).add 0) = cs'[0]?:=hat 0 h2
         have ha : (a.add (0 * P.cellsOf e)).add 0 = a:=by simp [Addr.add]
         rw [ha,List.getElem?_eq_getElem (by omega)] at h0
         unfold World.cell? at h0
         split at h0
         · rename_i c _ _ hbk
           split at h0
           · cases h0
           · rename_i hsp
             exact ⟨by simpa using hsp,(Array.getElem?_eq_some_iff.1 hbk).1⟩
         · cases h0
       obtain ⟨rows,r1,r2⟩:=list_choice (Q:=fun i row=>TyR P n e row ∧ row.length = P.cellsOf e ∧ (a.spot = none ∧ a.block < w.heap.size) ∧ RepC w (fun b=>b < w.heap.size) row a.block (a.off + i * P.cellsOf e)) len (fun i hi=>by
         obtain ⟨cs',hc,ht'⟩:=hel i (by omega)
         obtain ⟨q1,xs,q2,q3⟩:=trod_rep n e k cs' _ h3 ht'
         obtain ⟨_,hcl,hat⟩:=World.cells?_some hc
         have hlen : xs.length = P.cellsOf e:=by rw [q3.len,hcl]
         have hcell : ∀ j,j < P.cellsOf e → w.cell? ((a.add (i * P.cellsOf e)).add j) = cs'[j]?:=hat
         have hspot : a.spot = none ∧ a.block < w.heap.size:=hspot0 (by omega)
         refine ⟨xs,q2,hlen,hspot,RepC.of_get fun j y hy=>?_⟩
         obtain ⟨v,hv,hyv⟩:=q3.at hy
         have hj : j < P.cellsOf e:=by have:=(List.getElem?_eq_some_iff.1 hy).1; omega
         have hj2:=hcell j hj
         rw [hv] at hj2
         refine ⟨v, ?_, ?_,hyv⟩
         · rw [← hj2]
           congr 1
           obtain ⟨ab,ao,asp⟩:=a
           simp only at hspot
           rw [hspot.1]
           unfold Addr.add
           split <;> split <;> simp <;> omega
         · exact plain_one (List.all_eq_true.1 (TyR.all n e xs q2) y (List.mem_of_getElem? hy)) hyv)
       refine ⟨by simpa using h1.symm,[.list (P.cellsOf e) rows],⟨rows,rfl,by omega,fun row hrow=>?_⟩, ?_⟩
       · obtain ⟨i,hi⟩:=List.mem_iff_getElem?.1 hrow
         exact (r2 i row hi).1
       · simp only [RepIL,RepI]
         refine ⟨_,[],rfl, .inr ⟨a,cap,by rw [r1],by omega,hm,fun hne=>?_,RepRows.of_get fun i row hi=>⟨(r2 i row hi).2.1,(r2 i row hi).2.2.2⟩⟩,rfl⟩
         match rows,hne,r2 with
         | row :: _,_,r2=>exact (r2 0 row (by simp)).2.2.1
   · rename_i fs hu
     simp only [Bool.and_eq_true,List.all_eq_true] at h
     obtain ⟨ys,m,rfl,rfl,hlen,hyl,hf⟩:=DataW.trod_struct hu ht
     obtain ⟨t1,t2⟩:=tile_sum _ _ _ h.1
     refine ⟨hlen, ?_⟩
     have:=pieces_rep (w:=w) (I:=fun b=>b < w.heap.size) (q:=TyR P n) (size:=P.cellsOf) (cs:=cs) (fs.toList.map fun f=>(f.type,f.offset)) 0 (fun p hp=>by
         obtain ⟨f,hfm,rfl⟩:=List.mem_map.1 hp
         obtain ⟨i,hi⟩:=List.mem_iff_getElem?.1 hfm
         have hfi:=hf i f (by simpa using hi)
         have hil : i < ys.length:=by
           have:=(List.getElem?_eq_some_iff.1 hi).1
           simp only [Array.length_toList] at this
           omega
         rw [List.getElem?_eq_getElem hil] at hfi
         obtain ⟨_,xs,q1,q2⟩:=trod_rep n f.type m _ _ (h.2 f hfm) hfi
         exact ⟨xs,q1,q2⟩)
       (fun i p hp=>by
         simp only [List.getElem?_map,Option.map_eq_some_iff] at hp
         obtain ⟨f,hfi,rfl⟩:=hp
         have:=t2 i f hfi
         simpa [List.map_take,List.map_map,Function.comp_def] using this)
       (by rw [hlen]; simpa [List.map_map,Function.comp_def] using t1)
     obtain ⟨xs,q1,q2⟩:=this
     refine ⟨xs,by simpa [List.map_map,Function.comp_def] using q1,by simpa using q2⟩
   · rename_i k e hu
     simp only [Bool.and_eq_true,beq_iff_eq] at h
     obtain ⟨ys,m,rfl,rfl,hlen,hyl,hf⟩:=DataW.trod_array hu ht
     refine ⟨hlen, ?_⟩
     have:=pieces_rep (w:=w) (I:=fun b=>b < w.heap.size) (q:=TyR P n) (size:=P.cellsOf) (cs:=cs) ((List.range k).map fun i=>(e,i * P.cellsOf e)) 0 (fun p hp=>by
         obtain ⟨i,hi,rfl⟩:=List.mem_map.1 hp
         have hik : i < k:=by simpa using hi
         have hfi:=hf i hik
         rw [List.getElem?_eq_getElem (by omega)] at hfi
         obtain ⟨_,xs,q1,q2⟩:=trod_rep n e m _ _ h.2 hfi
         exact ⟨xs,q1,q2⟩)
       (fun i p hp=>by
         simp only [List.getElem?_map,Option.map_eq_some_iff] at hp
         obtain ⟨j,hj,rfl⟩:=hp
         have hlt : i < k:=by have:=(List.getElem?_eq_some_iff.1 hj).1; simpa using this
         rw [List.getElem?_range (by have:=(List.getElem?_eq_some_iff.1 hj).1; simpa using this)] at hj
         simp only [Option.some.injEq] at hj
         subst hj
         simp only [List.map_take,List.map_map,Function.comp_def,List.map_const',List.length_range,List.take_replicate,sum_rep,Nat.zero_add]
         simp [Nat.min_eq_left (Nat.le_of_lt hlt)])
       (by rw [hlen,h.1]; simp [List.map_map,Function.comp_def,List.map_const',sum_rep])
     obtain ⟨xs,q1,q2⟩:=this
     refine ⟨xs,by simpa [List.map_map,Function.comp_def,List.map_const'] using q1,by simpa using q2⟩
   · cases h
end
end Go.Abs
namespace Go.Abs
open Go Go.ChangeShapes Go.WideShapes Go.ChangeAt Go.RowKit
section
def TyV (P : Program) (n : Nat) (t : TypeId) (x : AV) : Prop :=
 match P.underlying t with
 | some (.struct _) | some (.array _ _) => ∃ cs,x = .agg cs ∧ TyR P n t cs
 | _=>TyR P n t [x]
theorem Trod_rep {H : Type} {enc : TypeId × Value → H} {P : Program} {w : World} {base b0 : Nat} {spare : Nat → Bool} {held : Bool} {r : Reach} {n : Nat} {t : TypeId} {v : Value} {d : DataW H} {ps : List MemPlace} (hp : plainT P n t = true)
   (hv : Value.okWide P w r b0 t v) (h : DataW.Trod enc P w base spare held t v d ps) : ∃ x,TyV P n t x ∧ RepI w (fun b=>b < w.heap.size) x v:=by
 obtain ⟨fuel,hf⟩:=h
 obtain ⟨h1,xs,h2,h3⟩:=trod_rep n t fuel _ _ hp hf
 unfold TyV
 have one : (∀ cs,v ≠ .agg cs) → ∃ x,xs = [x] ∧ RepI w (fun b=>b < w.heap.size) x v:=by
   intro hne
   have hc : v.cells.toList = [v]:=by
     cases v with
     | agg cs=>exact absurd rfl (hne cs)
     | _=>rfl
   rw [hc] at h3
   match xs,h3 with
   | [x],h3 =>
     simp only [RepIL] at h3
     obtain ⟨v',vs',he,hx,_⟩:=h3
     simp only [List.cons.injEq] at he
     obtain ⟨rfl,_⟩:=he
     exact ⟨x,rfl,hx⟩
   | [],h3=>simp [RepIL] at h3
   | _ :: _ :: _,h3 =>
     have:=h3.len
     simp at this
 have hv0:=hv
 unfold Value.okWide at hv
 cases n with
 | zero=>simp [plainT] at hp
 | succ n =>
   have hp':=hp
   unfold plainT at hp'
   split at hp'
   all_goals
     rename_i hu
     simp only [hu] at hv ⊢
   case h_5 =>
     obtain ⟨cs,rfl,_⟩:=hv
     exact ⟨.agg xs,⟨xs,rfl,h2⟩,by simp only [RepI]; exact ⟨cs,rfl,by simpa [Value.cells] using h3⟩⟩
   case h_6 =>
     obtain ⟨cs,rfl,_⟩:=hv
     exact ⟨.agg xs,⟨xs,rfl,h2⟩,by simp only [RepI]; exact ⟨cs,rfl,by simpa [Value.cells] using h3⟩⟩
   case h_1 =>
     obtain ⟨b,rfl⟩:=okWide_bool hu hv0
     obtain ⟨x,rfl,hx⟩:=one (fun cs h=>by cases h)
     exact ⟨x,h2,hx⟩
   case h_2 =>
     obtain ⟨b,rfl⟩:=okWide_int hu hv0
     obtain ⟨x,rfl,hx⟩:=one (fun cs h=>by cases h)
     exact ⟨x,h2,hx⟩
   case h_3 =>
     obtain ⟨b,rfl⟩:=okWide_string hu hv0
     obtain ⟨x,rfl,hx⟩:=one (fun cs h=>by cases h)
     exact ⟨x,h2,hx⟩
   case h_4 =>
     obtain ⟨a0,len,cap,rfl⟩:=okWide_slice hu hv0
     obtain ⟨x,rfl,hx⟩:=one (fun cs h=>by cases h)
     exact ⟨x,h2,hx⟩
   case h_7=>cases hp'
theorem TrodAll_rep {H : Type} {enc : TypeId × Value → H} {P : Program} {w : World} {base b0 : Nat} {spare : Nat → Bool} {held : Bool} {r : Reach} {n : Nat} : ∀ (ts : List TypeId) (vs : List Value) (ds : List (DataW H)) (ps : List MemPlace),(∀ t ∈ ts,plainT P n t = true) →
   (∀ (j : Nat) t v,ts[j]? = some t → vs[j]? = some v → Value.okWide P w r b0 t v) → DataW.TrodAll enc P w base spare held ts vs ds ps → ∃ xs,TyFs (fun t ys => ∃ x,ys = [x] ∧ TyV P n t x) ts xs ∧ RepIL w (fun b=>b < w.heap.size) xs vs
 | [],[],[],_,_,_,_=>⟨[],rfl,by simp [RepIL]⟩
 | t :: ts,v :: vs,d :: ds,ps,hp,hv,⟨p,q,h1,h2,_⟩=>by
   obtain ⟨x,h3,h4⟩:=Trod_rep (hp t (by simp)) (hv 0 t v rfl rfl) h1
   obtain ⟨xs,h5,h6⟩:=TrodAll_rep ts vs ds q (fun t ht=>hp t (by simp [ht])) (fun j t v h1 h2=>hv (j + 1) t v (by simpa using h1) (by simpa using h2)) h2
   exact ⟨x :: xs,⟨[x],xs,rfl,⟨x,rfl,h3⟩,h5⟩,by simp only [RepIL]; exact ⟨v,vs,rfl,h4,h6⟩⟩
theorem TrodAll_stays {H : Type} {enc : TypeId × Value → H} {P : Program} (hl : laidOutB P = true) {W W' : World} (hb : Below W.heap.size W W') {sp : Nat → Bool} : ∀ (ts : List TypeId) (vs : List Value) (ds : List (DataW H)) (ps : List MemPlace),
   (∀ t ∈ ts,P.readableRec t = true ∧ t < P.types.size) → (∀ p ∈ ps,p.block < W.heap.size ∧ sp p.block = true) → DataW.TrodAll enc P W 0 (fun _=>true) true ts vs ds ps → DataW.TrodAll enc P W' 0 sp true ts vs ds ps
 | [],[],[],_,_,_,h=>h
 | t :: ts,v :: vs,d :: ds,ps,ht,hp,⟨p,q,h1,h2,e⟩ =>
   ⟨p,q,WideElems.Trod_stays hl (ht t (by simp)).1 (ht t (by simp)).2 h1 (fun x hx=>hb.same (hp x (by rw [e]; exact List.mem_append_left _ hx)).1) (fun x hx=>(hp x (by rw [e]; exact List.mem_append_left _ hx)).2),
     TrodAll_stays hl hb ts vs ds q (fun t h=>ht t (by simp [h])) (fun x hx=>hp x (by rw [e]; exact List.mem_append_right _ hx)) h2,e⟩
theorem TrodAll_len {H : Type} {enc : TypeId × Value → H} {P : Program} {w : World} {base : Nat} {spare : Nat → Bool} {held : Bool} : ∀ (ts : List TypeId) (vs : List Value) (ds : List (DataW H)) (ps : List MemPlace),DataW.TrodAll enc P w base spare held ts vs ds ps → ds.length = ts.length
 | [],[],[],_,_=>rfl
 | _ :: ts,_ :: vs,_ :: ds,_,⟨_,q,_,h2,_⟩=>by simp [TrodAll_len ts vs ds q h2]
theorem post_of_same_old {H : Type} {enc : TypeId × Value → H} {P : Program} {f : Func} {s : ChangeSpec} {apart fresh handsOn again : Bool} {W W' : World} {args : Array Value} {v : Value} {ds gs : List (DataW H)} {before pa pv : List MemPlace}
   (hW : DataW.Whole enc P f.params.toList s.vars apart W args.toList ds gs before)
   (hres : ∀ (b : Nat) (sp : Nat → Bool) (hd : Bool),DataW.TrodAll enc P W' b sp hd f.resultTypes.toList (v.resultList f.resultTypes.size) (s.fn H (ds ++ gs)).results [])
   (hargs : ∀ sp : Nat → Bool,(∀ p ∈ before,sp p.block = true) → DataW.TrodAll enc P W' 0 sp true f.params.toList args.toList (s.fn H (ds ++ gs)).args pa)
   (hvars : ∀ sp : Nat → Bool,(∀ p ∈ before,sp p.block = true) → DataW.TrodVars enc P W' sp s.vars (s.fn H (ds ++ gs)).vars pv)
   (hps : before = pa ++ pv) (hk : W.keptBut W' (· ∈ before)) (hfz : ∀ a : Addr,a.block < W.heap.size → W'.frozen? a = W.frozen? a)
   (hok : ∀ (j : Nat) (t : TypeId) (r : Value),f.resultTypes[j]? = some t → (v.resultList f.resultTypes.size)[j]? = some r → Value.okWide P W' .any 0 t r) :
   s.post enc P f apart fresh handsOn again W args v W':=by
 have hold : ∀ p ∈ before,(fun b=>decide (b < W.heap.size)) p.block = true:=fun p hp=>by simpa using hW.lt p hp
 refine ⟨ds,gs,before,[],pa,pv,hW,hres _ _ _,hargs _ hold,hvars _ hold,World.keptBut_mono (fun p hp=>⟨hp, ?_⟩) hk,fun _=>?_⟩
 · rw [hps,List.mem_append] at hp
   exact Or.inr hp
 · have hlt:=hW.lt
   obtain ⟨_,_,_,_,_,hz,hn⟩:=hW
   refine ⟨hok,_,_,([] ++ pa) ++ pv,⟨[] ++ pa,pv,trodAll_append (hargs _ (fun _ _=>rfl)) (hres _ _ _),hvars _ (fun _ _=>rfl),rfl, ?_, ?_⟩, ?_⟩
   · intro b off hp
     have hp' : MemPlace.cell b off ∈ before:=by rw [hps]; simpa using hp
     rw [hfz _ (hlt _ hp')]
     exact hz b off hp'
   · intro ha
     have:=hn ha
     rw [hps] at this
     simpa using this
   · intro p hp _
     rw [hps]
     simpa using hp
theorem law_calls {P : Program} {f : FuncId} {fn : Func} {S : SpecFn} (hf : FnC P f S) {H : Type} {enc : TypeId × Value → H} {W : World} {args : Array Value} {ds gs : List (DataW H)} {before : List MemPlace} {s : ChangeSpec} {apart fresh handsOn again : Bool}
   (hl : laidOutB P = true) (hr : ∀ t ∈ fn.params.toList,P.readableRec t = true ∧ t < P.types.size) {tb : TypeId} (hrt : fn.resultTypes = #[tb]) (htb : P.underlying tb = some .bool)
   (hvars : s.vars = []) (hspec : ∀ ds,ds.length = fn.params.size → s.fn H ds = { results:=[.lit (.bool true)],args:=ds })
   (hW : DataW.Whole enc P fn.params.toList s.vars apart W args.toList ds gs before)
   {xs : List AV} (hx : RepIL W (fun b=>b < W.heap.size) xs args.toList) (hS : S xs [] = some (.bool true,[])) :
   Calls P f args W fun e W' => ∃ v,e = .returned v ∧ s.post enc P fn apart fresh handsOn again W args v W':=by
 have hE0 : (env0 W (fun _=>False)).imm = fun b=>b < W.heap.size:=by
   funext b; simp [Env.imm,env0]
 have hargs : RepL (env0 W (fun _=>False)) xs args.toList:=RepIL.rep _ _ (by rw [hE0]; exact hx)
 refine (hf.calls xs [] (.bool true) [] hS (env0 W (fun _=>False)) args (by funext i; simp [env0]) (HR.env0 (fun b h=>h.elim)) hargs).mono fun e w' ⟨v,E',h1,h2,h3,h4,h5,h6⟩=>⟨v,h1, ?_⟩
 subst h2
 simp only [Rep] at h6
 subst h6
 have hb : Below W.heap.size W E'.w:=⟨h5.kept.os,h5.kept.tape,h5.kept.output,h5.size,fun k hk=>h5.old k hk (fun id blk h=>by simp [env0] at h)⟩
 have hW':=hW
 obtain ⟨p,q,hA,hV,rfl,hfz,hnd⟩:=hW
 rw [hvars] at hV
 obtain ⟨rfl,rfl⟩:=trodVars_none hV
 have hlen : ds.length = fn.params.size:=by rw [TrodAll_len _ _ _ _ hA,Array.length_toList]
 have hs:=hspec ds hlen
 refine post_of_same_old (pa:=p) (pv:=[]) hW' (fun b sp hd=>?_) (fun sp hsp=>?_) (fun sp hsp=>?_) rfl (hb.frame _) h5.kept.fr (ok_one hrt rfl (okWide_bool_mk htb true))
 · rw [List.append_nil,hs,hrt]
   exact trodAll_mk1 (shut_bool htb true)
 · rw [List.append_nil,hs]
   exact TrodAll_stays hl hb _ _ _ _ hr (fun x hx=>⟨hW'.lt x (by simp [hx]),hsp x (by simp [hx])⟩) hA
 · rw [List.append_nil,hs,hvars]
   rfl
end
end Go.Abs
namespace Go.Abs
open Go
set_option linter.unusedSimpArgs false
set_option linter.unusedVariables false
section
def leafsN (P : Program) : Nat → TypeId → List TypeId
 | 0,t=>[t]
 | n + 1,t=>match P.underlying t with
   | some (.struct fs)=>(fs.toList.map (·.type)).flatMap (leafsN P n)
   | some (.array m e)=>(List.replicate m e).flatMap (leafsN P n)
   | _=>[t]
def leafs (P : Program) (t : TypeId) : List TypeId := leafsN P 9 t
mutual
def nrmV (P : Program) (t : TypeId) : AV → AV
 | .nils=>match P.underlying t with
   | some (.slice e) => .list (P.cellsOf e) []
   | _ => .nils
 | .list s rows=>match P.underlying t with
   | some (.slice e) => .list s (nrmRows P (leafs P e) rows)
   | _ => .list s rows
 | .agg cs => .agg (nrmL P (leafs P t) cs)
 | .any => .any
 | .bool b => .bool b
 | .int k n => .int k n
 | .str s => .str s
 | .nilp => .nilp
 | .ptr i g r o => .ptr i g r o
 | .cptr cs => .cptr cs
 | .sl i g o l => .sl i g o l
 | .nilf => .nilf
 | .fn f a b => .fn f a b
 | .nilm => .nilm
 | .amap i g => .amap i g
 | .psl i g r o l => .psl i g r o l
 | .slc i g o l c => .slc i g o l c
 | .tup vs => .tup vs
def nrmL (P : Program) : List TypeId → List AV → List AV
 | t :: ts,x :: xs=>nrmV P t x :: nrmL P ts xs
 | [],xs=>xs
 | _ :: _,[]=>[]
def nrmRows (P : Program) (ts : List TypeId) : List (List AV) → List (List AV)
 | []=>[]
 | r :: rs=>nrmL P ts r :: nrmRows P ts rs
end
theorem nrmRows_eq (P : Program) (ts : List TypeId) : ∀ rows : List (List AV),nrmRows P ts rows = rows.map (nrmL P ts)
 | []=>by simp [nrmRows]
 | r :: rs=>by simp [nrmRows,nrmRows_eq P ts rs]
theorem nrmL_nil (P : Program) : ∀ xs : List AV,nrmL P [] xs = xs
 | []=>by simp [nrmL]
 | _ :: _=>by simp [nrmL]
theorem nrmL_len (P : Program) : ∀ (ts : List TypeId) (xs : List AV),(nrmL P ts xs).length = xs.length
 | [],xs=>by rw [nrmL_nil]
 | _ :: _,[]=>by simp [nrmL]
 | t :: ts,x :: xs=>by simp [nrmL,nrmL_len P ts xs]
mutual
theorem nrmV_repI {P : Program} {w : World} {I : Nat → Prop} (t : TypeId) : (x : AV) → (v : Value) → RepI w I x v → RepI w I (nrmV P t x) v
 | .nils,v,h=>by
   simp only [nrmV]
   split
   · simp only [RepI] at h ⊢
     exact .inl ⟨h,trivial⟩
   · exact h
 | .list s rows,v,h=>by
   simp only [nrmV]
   split
   · simp only [RepI] at h ⊢
     rename_i e _
     have hl : (nrmRows P (leafs P e) rows).length = rows.length:=by rw [nrmRows_eq]; simp
     have hn : nrmRows P (leafs P e) rows = [] ↔ rows = []:=by rw [nrmRows_eq]; simp
     rcases h with ⟨h1,h2⟩ | ⟨a,cap,h1,h2,h3,h4,h5⟩
     · exact .inl ⟨h1,hn.2 h2⟩
     · exact .inr ⟨a,cap,by rw [hl]; exact h1,by rw [hl]; exact h2,h3,fun hne=>h4 (fun e=>hne (hn.2 e)),nrmRows_rep _ _ _ _ _ h5⟩
   · exact h
 | .agg cs,v,h=>by
   simp only [nrmV]
   simp only [RepI] at h ⊢
   obtain ⟨vs,h1,h2⟩:=h
   exact ⟨vs,h1,nrmL_repI _ _ _ h2⟩
 | .any,_,h=>by simpa only [nrmV] using h
 | .bool _,_,h=>by simpa only [nrmV] using h
 | .int _ _,_,h=>by simpa only [nrmV] using h
 | .str _,_,h=>by simpa only [nrmV] using h
 | .nilp,_,h=>by simpa only [nrmV] using h
 | .ptr _ _ _ _,_,h=>by simpa only [nrmV] using h
 | .cptr _,_,h=>by simpa only [nrmV] using h
 | .sl _ _ _ _,_,h=>by simpa only [nrmV] using h
 | .nilf,_,h=>by simpa only [nrmV] using h
 | .fn _ _ _,_,h=>by simpa only [nrmV] using h
 | .nilm,_,h=>by simpa only [nrmV] using h
 | .amap _ _,_,h=>by simpa only [nrmV] using h
 | .psl _ _ _ _ _,_,h=>by simpa only [nrmV] using h
 | .slc _ _ _ _ _,_,h=>by simpa only [nrmV] using h
 | .tup _,_,h=>by simpa only [nrmV] using h
theorem nrmL_repI {P : Program} {w : World} {I : Nat → Prop} : (ts : List TypeId) → (xs : List AV) → (vs : List Value) → RepIL w I xs vs → RepIL w I (nrmL P ts xs) vs
 | [],xs,vs,h=>by rw [nrmL_nil]; exact h
 | _ :: _,[],vs,h=>by simpa only [nrmL] using h
 | t :: ts,x :: xs,vs,h=>by
   simp only [nrmL,RepIL] at h ⊢
   obtain ⟨v,vs',h1,h2,h3⟩:=h
   exact ⟨v,vs',h1,nrmV_repI t x v h2,nrmL_repI ts xs vs' h3⟩
theorem nrmL_repC {P : Program} {w : World} {I : Nat → Prop} : (ts : List TypeId) → (xs : List AV) → (b off : Nat) → RepC w I xs b off → RepC w I (nrmL P ts xs) b off
 | [],xs,b,off,h=>by rw [nrmL_nil]; exact h
 | _ :: _,[],b,off,h=>by simpa only [nrmL] using h
 | t :: ts,x :: xs,b,off,h=>by
   simp only [nrmL,RepC] at h ⊢
   obtain ⟨⟨u,h1,h2,h3⟩,h4⟩:=h
   exact ⟨⟨u,h1,h2,nrmV_repI t x u h3⟩,nrmL_repC ts xs b (off + 1) h4⟩
theorem nrmRows_rep {P : Program} {w : World} {I : Nat → Prop} (ts : List TypeId) : (rows : List (List AV)) → (b off size : Nat) → RepRows w I rows b off size → RepRows w I (nrmRows P ts rows) b off size
 | [],_,_,_,_=>by simp only [nrmRows,RepRows]
 | r :: rs,b,off,size,h=>by
   simp only [nrmRows,RepRows] at h ⊢
   obtain ⟨h1,h2,h3⟩:=h
   exact ⟨by rw [nrmL_len]; exact h1,nrmL_repC ts r b off h2,nrmRows_rep ts rs b _ size h3⟩
end
mutual
theorem nrmV_rep {P : Program} {E : Env} (t : TypeId) : (x : AV) → (v : Value) → Rep E x v → Rep E (nrmV P t x) v
 | .nils,v,h=>(by
   have h' : RepI E.w E.imm .nils v:=h
   have:=nrmV_repI (P:=P) t .nils v h'
   exact RepI.rep _ _ this)
 | .list s rows,v,h=>(by
   have h' : RepI E.w E.imm (.list s rows) v:=h
   have:=nrmV_repI (P:=P) t (.list s rows) v h'
   exact RepI.rep _ _ this)
 | .agg cs,v,h=>by
   simp only [nrmV]
   simp only [Rep] at h ⊢
   obtain ⟨vs,h1,h2⟩:=h
   exact ⟨vs,h1,nrmL_rep _ _ _ h2⟩
 | .any,_,h=>by simpa only [nrmV] using h
 | .bool _,_,h=>by simpa only [nrmV] using h
 | .int _ _,_,h=>by simpa only [nrmV] using h
 | .str _,_,h=>by simpa only [nrmV] using h
 | .nilp,_,h=>by simpa only [nrmV] using h
 | .ptr _ _ _ _,_,h=>by simpa only [nrmV] using h
 | .cptr _,_,h=>by simpa only [nrmV] using h
 | .sl _ _ _ _,_,h=>by simpa only [nrmV] using h
 | .nilf,_,h=>by simpa only [nrmV] using h
 | .fn _ _ _,_,h=>by simpa only [nrmV] using h
 | .nilm,_,h=>by simpa only [nrmV] using h
 | .amap _ _,_,h=>by simpa only [nrmV] using h
 | .psl _ _ _ _ _,_,h=>by simpa only [nrmV] using h
 | .slc _ _ _ _ _,_,h=>by simpa only [nrmV] using h
 | .tup _,_,h=>by simpa only [nrmV] using h
theorem nrmL_rep {P : Program} {E : Env} : (ts : List TypeId) → (xs : List AV) → (vs : List Value) → RepL E xs vs → RepL E (nrmL P ts xs) vs
 | [],xs,vs,h=>by rw [nrmL_nil]; exact h
 | _ :: _,[],vs,h=>by simpa only [nrmL] using h
 | t :: ts,x :: xs,vs,h=>by
   simp only [nrmL,RepL] at h ⊢
   obtain ⟨v,vs',h1,h2,h3⟩:=h
   exact ⟨v,vs',h1,nrmV_rep t x v h2,nrmL_rep ts xs vs' h3⟩
end
def nS (P : Program) (ts : List TypeId) (S : SpecFn) : SpecFn := fun args B => S (nrmL P ts args) B
theorem nS_eq (P : Program) (ts : List TypeId) (S : SpecFn) (args : List AV) (B : List ABlk) : nS P ts S args B = S (nrmL P ts args) B := rfl
theorem FnC.nrm {P : Program} {f : FuncId} {S : SpecFn} (ts : List TypeId) (h : FnC P f S) : FnC P f (nS P ts S) :=
 ⟨h.fn,fun args B r B' hS E vs hH hr hx=>h.calls _ B r B' hS E vs hH hr (nrmL_rep ts args _ hx)⟩
def nrmR (P : Program) : List TypeId → AV → AV
 | [t],x=>nrmV P t x
 | ts, .tup vs => .tup (nrmL P ts vs)
 | _,x=>x
theorem nrmR_rep {P : Program} {E : Env} (ts : List TypeId) (x : AV) (v : Value) (h : Rep E x v) : Rep E (nrmR P ts x) v := by
 unfold nrmR
 split
 · exact nrmV_rep _ _ _ h
 · simp only [Rep] at h ⊢
   obtain ⟨cs,h1,h2⟩:=h
   exact ⟨cs,h1,nrmL_rep _ _ _ h2⟩
 · exact h
theorem FnC.res {P : Program} {f : FuncId} {S S' : SpecFn} (ts : List TypeId) (h : FnC P f S) (hS : ∀ args B r B',S' args B = some (r,B') → ∃ r',S args B = some (r',B') ∧ nrmR P ts r' = r) : FnC P f S' :=
 ⟨h.fn,fun args B r B' hS' E vs hH hr hx=>by
   obtain ⟨r',h1,rfl⟩:=hS args B r B' hS'
   exact (h.calls args B r' B' h1 E vs hH hr hx).mono fun e w' ⟨v,E',k1,k2,k3,k4,k5,k6⟩=>⟨v,E',k1,k2,k3,k4,k5,nrmR_rep ts _ _ k6⟩⟩
variable {P : Program}
def RetNf (P : Program) (fn : Func) (ts : List TypeId) (r : AV) (B : List ABlk) (σ : AS) : Prop := ∃ r',Ret P fn r' B σ ∧ nrmR P ts r' = r
def RetBN (P : Program) (fn : Func) (ts : List TypeId) (k : Nat) (r : AV) (B : List ABlk) (σ : AS) : Prop := ∃ r',RetB P fn k r' B σ ∧ nrmR P ts r' = r
theorem W.ex {Q : AV → AS → Prop} {c : Code} {σ : AS} {R : AV → Prop} (h : W P (fun τ => ∃ r',Q r' τ ∧ R r') c [] σ) (hne : ∃ r',R r') : ∃ r',R r' ∧ W P (Q r') c [] σ := by
 by_cases hs : ∃ a E,SR σ a E
 · obtain ⟨e, τ,⟨hen,r,hq,hr⟩,hx⟩:=h.h hs
   exact ⟨r,hr,⟨fun _=>⟨e, τ,⟨hen,hq⟩,hx⟩⟩⟩
 · obtain ⟨r,hr⟩:=hne
   exact ⟨r,hr,⟨fun h=>absurd h hs⟩⟩
theorem FnC.walkN {α : Type} {enc : α → List AV} {res : α → AV × List ABlk} (f : FuncId) {fn : Func} (ts : List TypeId) (hf : P.funcs[f]? = some fn) (hb : fn.body = some (codeOf fn)) (hname : (fn.name == "runtime.NumGoroutine") = false)
   (h : ∀ x,W P (RetNf P fn ts (res x).1 (res x).2) (codeOf fn) [] (init fn (enc x))) (hne : ∀ x, ∃ r',nrmR P ts r' = (res x).1) : FnC P f (mkS enc res):=by
 have key : ∀ x, ∃ r',nrmR P ts r' = (res x).1 ∧ W P (Ret P fn r' (res x).2) (codeOf fn) [] (init fn (enc x)):=fun x=>W.ex (R:=fun r'=>nrmR P ts r' = (res x).1) (h x) (hne x)
 refine FnC.res ts (FnC.walk (enc:=enc) (res:=fun x=>((key x).choose,(res x).2)) f hf hb hname fun x=>(key x).choose_spec.2) fun args B r B' hS=>?_
 unfold mkS at hS ⊢
 split at hS
 · rename_i hc
   rw [dif_pos hc]
   simp only [Option.some.injEq] at hS
   have e2 : (res hc.2.choose).2 = B':=by rw [hS]
   exact ⟨(key hc.2.choose).choose,congrArg (fun z=>some (_,z)) e2,by rw [(key _).choose_spec.1,hS]⟩
 · cases hS
theorem FnC.walkBN {α : Type} {enc : α → List AV × List ABlk} {res : α → AV × List ABlk} (f : FuncId) {fn : Func} (ts : List TypeId) (hf : P.funcs[f]? = some fn) (hb : fn.body = some (codeOf fn)) (hname : (fn.name == "runtime.NumGoroutine") = false)
   (hg : ∀ x, ∀ b ∈ (enc x).2,b.gen = 0) (h : ∀ x,W P (RetBN P fn ts (enc x).2.length (res x).1 (res x).2) (codeOf fn) [] (init2 fn (enc x).1 (enc x).2)) (hne : ∀ x, ∃ r',nrmR P ts r' = (res x).1) : FnC P f (mkS2 enc res):=by
 have key : ∀ x, ∃ r',nrmR P ts r' = (res x).1 ∧ W P (RetB P fn (enc x).2.length r' (res x).2) (codeOf fn) [] (init2 fn (enc x).1 (enc x).2):=fun x=>W.ex (R:=fun r'=>nrmR P ts r' = (res x).1) (h x) (hne x)
 refine FnC.res ts (FnC.walkB (enc:=enc) (res:=fun x=>((key x).choose,(res x).2)) f hf hb hname hg fun x=>(key x).choose_spec.2) fun args B r B' hS=>?_
 unfold mkS2 at hS ⊢
 split at hS
 · rename_i hc
   rw [dif_pos hc]
   simp only [Option.some.injEq] at hS
   have e2 : (res hc.choose).2 = B':=by rw [hS]
   exact ⟨(key hc.choose).choose,congrArg (fun z=>some (_,z)) e2,by rw [(key _).choose_spec.1,hS]⟩
 · cases hS
end
section
variable {P : Program}
theorem TyFs.mono {q q' : TypeId → List AV → Prop} (h : ∀ t xs,q t xs → q' t xs) : ∀ (ts : List TypeId) (xs : List AV),TyFs q ts xs → TyFs q' ts xs
 | [],_,hx=>hx
 | t :: r,xs,⟨a,b,e,h1,h2⟩=>⟨a,b,e,h _ _ h1,TyFs.mono h r b h2⟩
theorem TyR.mono : ∀ {n : Nat} {t : TypeId} {xs : List AV},TyR P n t xs → TyR P (n + 1) t xs
 | 0,t,xs,h=>by simp [TyR] at h
 | n + 1,t,xs,h=>by
   rw [TyR] at h ⊢
   split at h
   · exact h
   · exact h
   · exact h
   · obtain ⟨rows,rfl,h1,h2⟩:=h
     exact ⟨rows,rfl,h1,fun r hr=>TyR.mono (h2 r hr)⟩
   · exact TyFs.mono (fun _ _ h=>TyR.mono h) _ _ h
   · exact TyFs.mono (fun _ _ h=>TyR.mono h) _ _ h
   · exact h.elim
theorem TyR.monoN {n m : Nat} (hm : n ≤ m) {t : TypeId} {xs : List AV} (h : TyR P n t xs) : TyR P m t xs := by
 induction m with
 | zero => have : n = 0 := by omega
           subst this; exact h
 | succ m ih =>
   by_cases e : n = m + 1
   · subst e; exact h
   · exact (ih (by omega)).mono
theorem TyR_int {n : Nat} {t : TypeId} {k : IntKind} {xs : List AV} (h : P.underlying t = some (.int k)) : TyR P (n + 1) t xs = ∃ m,xs = [.int k m] ∧ (Lit.int k m).wf = true := by simp only [TyR,h]
theorem TyR_string {n : Nat} {t : TypeId} {xs : List AV} (h : P.underlying t = some .string) : TyR P (n + 1) t xs = ∃ s : ByteArray,xs = [.str s] ∧ s.size ≤ maxLen := by simp only [TyR,h]
theorem TyR_struct {n : Nat} {t : TypeId} {fs : Array Field} {xs : List AV} (h : P.underlying t = some (.struct fs)) : TyR P (n + 1) t xs = TyFs (TyR P n) (fs.toList.map (·.type)) xs := by simp only [TyR,h]
theorem TyR_array {n : Nat} {t m e : Nat} {xs : List AV} (h : P.underlying t = some (.array m e)) : TyR P (n + 1) t xs = TyFs (TyR P n) (List.replicate m e) xs := by simp only [TyR,h]
def RowsTy (P : Program) (n : Nat) (e : TypeId) (rows : List (List AV)) : Prop := ∀ row ∈ rows,TyR P n e row
theorem TyR_slice {n : Nat} {t e : TypeId} {xs : List AV} (h : P.underlying t = some (.slice e)) : TyR P (n + 1) t xs = ∃ rows,xs = [.list (P.cellsOf e) rows] ∧ rows.length ≤ maxLen ∧ RowsTy P n e rows := by simp only [TyR,h,RowsTy]
def AV.dat (x : AV) : Bool := x.cellish && x.isInl
theorem TyFs.allP {q : TypeId → List AV → Prop} {p : AV → Bool} (h : ∀ t xs,q t xs → xs.all p = true) : ∀ (ts : List TypeId) (xs : List AV),TyFs q ts xs → xs.all p = true
 | [],_,hx=>by simp only [TyFs] at hx; subst hx; rfl
 | t :: r,xs,⟨a,b,e,h1,h2⟩=>by
   subst e
   rw [List.all_append,h _ _ h1,TyFs.allP h r b h2]; rfl
theorem TyR.dat : ∀ {n : Nat} {t : TypeId} {xs : List AV},TyR P n t xs → xs.all AV.dat = true
 | 0,t,xs,h=>by simp [TyR] at h
 | n + 1,t,xs,h=>by
   rw [TyR] at h
   split at h
   · obtain ⟨b,rfl⟩:=h; rfl
   · obtain ⟨m,rfl,_⟩:=h; rfl
   · obtain ⟨s,rfl,_⟩:=h; rfl
   · obtain ⟨rows,rfl,_⟩:=h; rfl
   · exact TyFs.allP (fun _ _ h=>TyR.dat h) _ _ h
   · exact TyFs.allP (fun _ _ h=>TyR.dat h) _ _ h
   · exact h.elim
theorem nrmL_append (ts : List TypeId) : ∀ (us : List TypeId) (xs ys : List AV),us.length = xs.length → nrmL P (us ++ ts) (xs ++ ys) = nrmL P us xs ++ nrmL P ts ys
 | [],[],ys,_=>by simp [nrmL_nil]
 | [],x :: xs,_,h=>by simp at h
 | u :: us,[],_,h=>by simp at h
 | u :: us,x :: xs,ys,h=>by
   simp only [List.cons_append,nrmL]
   rw [nrmL_append ts us xs ys (by simpa using h)]
theorem TyFs.nrm {q : TypeId → List AV → Prop} {lf : TypeId → List TypeId} (h : ∀ t xs,q t xs → (lf t).length = xs.length ∧ nrmL P (lf t) xs = xs) : ∀ (ts : List TypeId) (xs : List AV),TyFs q ts xs → (ts.flatMap lf).length = xs.length ∧ nrmL P (ts.flatMap lf) xs = xs
 | [],_,hx=>by simp only [TyFs] at hx; subst hx; simp [nrmL]
 | t :: r,xs,⟨a,b,e,h1,h2⟩=>by
   subst e
   obtain ⟨l1,n1⟩:=h _ _ h1
   obtain ⟨l2,n2⟩:=TyFs.nrm h r b h2
   rw [List.flatMap_cons,List.length_append,List.length_append,nrmL_append _ _ _ _ l1,n1,n2]
   exact ⟨by omega,rfl⟩
theorem TyR.nrmN : ∀ {n m : Nat} (_ : n ≤ m) (_ : m ≤ 9) {t : TypeId} {xs : List AV},TyR P n t xs → (leafsN P m t).length = xs.length ∧ nrmL P (leafsN P m t) xs = xs
 | 0,m,_,_,t,xs,h=>by simp [TyR] at h
 | n + 1,0,h1,_,_,_,_=>by omega
 | n + 1,m + 1,hm,h9,t,xs,h=>by
   rw [TyR] at h
   rw [leafsN]
   split at h
   · rename_i hu
     obtain ⟨b,rfl⟩:=h; simp [hu,nrmL,nrmV]
   · rename_i hu
     obtain ⟨m,rfl,_⟩:=h; simp [hu,nrmL,nrmV]
   · rename_i hu
     obtain ⟨s,rfl,_⟩:=h; simp [hu,nrmL,nrmV]
   · rename_i e hu
     obtain ⟨rows,rfl,_,hr⟩:=h
     have : nrmRows P (leafs P e) rows = rows:=by
       rw [nrmRows_eq]
       conv=>rhs; rw [← List.map_id rows]
       exact List.map_congr_left fun r hr'=>(TyR.nrmN (n:=n) (m:=9) (by omega) (Nat.le_refl _) (hr r hr')).2
     simp [hu,nrmL,nrmV,this]
   · rename_i fs hu
     simp only [hu]
     exact TyFs.nrm (fun t xs h=>TyR.nrmN (by omega) (by omega) h) _ _ h
   · rename_i k e hu
     simp only [hu]
     exact TyFs.nrm (fun t xs h=>TyR.nrmN (by omega) (by omega) h) _ _ h
   · exact h.elim
theorem TyR.nrm {n : Nat} (hn : n ≤ 9) {t : TypeId} {xs : List AV} (h : TyR P n t xs) : (leafs P t).length = xs.length ∧ nrmL P (leafs P t) xs = xs := TyR.nrmN hn (Nat.le_refl _) h
mutual
def bdV (k : Nat) : AV → Bool
 | .list _ rows=>decide (rows.length ≤ k) && bdRows k rows
 | .agg cs=>bdL k cs
 | .cptr cs=>bdL k cs
 | .tup cs=>bdL k cs
 | _=>true
def bdL (k : Nat) : List AV → Bool
 | []=>true
 | x :: r=>bdV k x && bdL k r
def bdRows (k : Nat) : List (List AV) → Bool
 | []=>true
 | x :: r=>bdL k x && bdRows k r
end
theorem bdRows_mem {k : Nat} {rows : List (List AV)} (h : bdRows k rows = true) {r : List AV} (hr : r ∈ rows) : bdL k r = true := by
 induction rows with
 | nil=>simp at hr
 | cons x rs ih =>
   simp only [bdRows,Bool.and_eq_true] at h
   rcases List.mem_cons.1 hr with rfl | hr
   · exact h.1
   · exact ih h.2 hr
theorem bdL_append {k : Nat} (a b : List AV) : bdL k (a ++ b) = (bdL k a && bdL k b) := by
 induction a with
 | nil=>simp [bdL]
 | cons x r ih=>simp only [List.cons_append,bdL,ih,Bool.and_assoc]
structure Td (P : Program) (t : TypeId) where
 cells : List AV
 ty : TyR P 8 t cells
 bd : bdL 10000 cells = true
theorem Td.ext {t : TypeId} {a b : Td P t} (h : a.cells = b.cells) : a = b := by
 cases a; cases b; simp only at h; subst h; rfl
variable {t : TypeId}
theorem Td.all (d : Td P t) : d.cells.all AV.dat = true := d.ty.dat
theorem dat_split {x : AV} (h : x.dat = true) : x.cellish = true ∧ x.isInl = true := by simpa [AV.dat] using h
@[simp] theorem Td.isInl (d : Td P t) : d.cells.all AV.isInl = true := by
 rw [List.all_eq_true]
 exact fun x hx=>(dat_split (List.all_eq_true.1 d.all x hx)).2
@[simp] theorem Td.cellish (d : Td P t) : d.cells.all AV.cellish = true := by
 rw [List.all_eq_true]
 exact fun x hx=>(dat_split (List.all_eq_true.1 d.all x hx)).1
@[simp] theorem Td.cellInl (d : Td P t) (b : Bool) : d.cells.all (fun x => x.cellish && (!b || x.isInl)) = true := by
 rw [List.all_eq_true]
 exact fun x hx=>by obtain ⟨h1,h2⟩:=dat_split (List.all_eq_true.1 d.all x hx); simp [h1,h2]
@[simp] theorem Td.cellInl2 (d : Td P t) : d.cells.all (fun x => x.cellish && x.isInl) = true := d.all
theorem Td.nrmL (d : Td P t) : nrmL P (leafs P t) d.cells = d.cells := (d.ty.nrm (by omega)).2
theorem Td.len' (d : Td P t) : d.cells.length = (leafs P t).length := (d.ty.nrm (by omega)).1.symm
theorem ren_inl {f : Nat → Nat → Option (Nat × Nat)} {x : AV} (h : x.isInl = true) : x.ren f = x := by
 cases x <;> simp [AV.isInl] at h <;> try rfl
 rename_i g a b
 cases a <;> cases b <;> simp [AV.isInl] at h
 simp [AV.ren,renL]
theorem renL_inl {f : Nat → Nat → Option (Nat × Nat)} : ∀ {l : List AV},l.all AV.isInl = true → renL f l = l
 | [],_=>rfl
 | x :: r,h=>by
   simp only [List.all_cons,Bool.and_eq_true] at h
   simp only [renL,ren_inl h.1,renL_inl h.2]
theorem refs_inl {x : AV} (h : x.isInl = true) : x.refs = [] := by
 cases x <;> simp [AV.isInl] at h <;> try rfl
 rename_i g a b
 cases a <;> cases b <;> simp [AV.isInl] at h
 simp [AV.refs,refsL]
theorem refsL_inl : ∀ {l : List AV},l.all AV.isInl = true → refsL l = []
 | [],_=>rfl
 | x :: r,h=>by
   simp only [List.all_cons,Bool.and_eq_true] at h
   simp only [refsL,refs_inl h.1,refsL_inl h.2,List.append_nil]
@[simp] theorem Td.renL (d : Td P t) (f : Nat → Nat → Option (Nat × Nat)) : renL f d.cells = d.cells := renL_inl d.isInl
@[simp] theorem Td.refsL (d : Td P t) : refsL d.cells = [] := refsL_inl d.isInl
@[simp] theorem renL_app (f : Nat → Nat → Option (Nat × Nat)) (a b : List AV) : Go.Abs.renL f (a ++ b) = Go.Abs.renL f a ++ Go.Abs.renL f b := by
 induction a with
 | nil=>rfl
 | cons x r ih=>simp only [List.cons_append,Go.Abs.renL,ih]
@[simp] theorem refsL_app (a b : List AV) : Go.Abs.refsL (a ++ b) = Go.Abs.refsL a ++ Go.Abs.refsL b := by
 induction a with
 | nil=>rfl
 | cons x r ih=>simp only [List.cons_append,Go.Abs.refsL,ih,List.append_assoc]
theorem nrmRows_map {β : Type} {ts : List TypeId} {f : β → List AV} (h : ∀ x,Go.Abs.nrmL P ts (f x) = f x) (l : List β) : nrmRows P ts (l.map f) = l.map f := by
 rw [nrmRows_eq,List.map_map]
 exact List.map_congr_left fun x _=>h x
def datS (S : SpecFn) : SpecFn := fun args B => match B with
 | []=>match S args [] with
   | some (r,B')=>match (frqT true r).run (num 0 B') with
     | some out=>if inlT out.val = true then some (out.val,[]) else none
     | none=>none
   | none=>none
 | _=>none
theorem FnC.dat {f : FuncId} {S : SpecFn} (h : FnC P f S) : FnC P f (datS S) := by
 refine ⟨h.fn,fun args B r B' hS E vs hH hr hx=>?_⟩
 unfold datS at hS
 split at hS
 · split at hS
   · rename_i r0 B0 hS0
     split at hS
     · rename_i out ho
       split at hS
       · rename_i hi
         simp only [Option.some.injEq,Prod.mk.injEq] at hS
         obtain ⟨rfl,rfl⟩:=hS
         have hE0 : E.H = fun _=>none:=by rw [hH]; funext i; simp
         refine (h.calls args [] r0 B0 hS0 E vs hH hr hx).mono fun e w' ⟨v,E1,k1,k2,k3,k4,k5,k6⟩=>?_
         have hH1 : E1.H = lk (num 0 B0):=by rw [k3]; funext i; simp [lk_num]
         obtain ⟨E2,m1,m2,m3,m4,m5⟩:=frqT_run hH1 k4 k6 ho
         have hs:=k5.trans m4
         have hi2:=inlT_rep hi m5
         have hold : ∀ b,b < E.w.heap.size → E2.w.heap[b]? = E.w.heap[b]?:=fun b hb=>hs.old b hb (fun id blk h=>by simp [hE0] at h)
         refine ⟨v,⟨E2.w,fun _=>none,E2.φ,E2.cs,E2.F⟩,k1,m1.trans k2,by funext i; simp,⟨fun _ _ h=>by simp at h,fun _ _ _ _ h=>by simp at h,fun _ _ h=>by simp at h,m3.fb⟩,⟨hs.size,fun b hb _=>hold b hb,hs.fo,fun id blk h=>by simp [hE0] at h,fun _ _ h=>by simp at h,hs.kept⟩, ?_⟩
         exact RepI.rep _ _ (RepI.mono (fun b hb=>⟨⟨hb.1,hb.2.1,fun _ _ h=>by simp at h⟩,rfl⟩) _ _ hi2)
       · cases hS
     · cases hS
   · cases hS
 · cases hS
theorem datS_clone (elem size bytes : Nat) (rows : List (List AV)) (h : rows.length ≤ 10000) (hb : bytes ≤ 1000) : datS (cloneC elem size bytes) [.list size rows] [] = some (.list size rows,[]) := by
 have h1 : rows.length * bytes ≤ 140737488355328:=Nat.le_trans (Nat.mul_le_mul h hb) (by decide)
 have h2 : rows.length ≤ 9223372036854775807:=by omega
 have h3 : rows.length ≤ maxLen:=by simp only [maxLen]; omega
 simp [datS,cloneC,h1,h2,h3,rowB,frqT,frqV,frq1,frz1,num,lk,st,AP.run,inlT,inlV,AV.isInl]
end
end Go.Abs
