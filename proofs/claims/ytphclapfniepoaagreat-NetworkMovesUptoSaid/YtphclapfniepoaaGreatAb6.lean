/- Rules for walks over abstract states, with invariants at loops and states that forget. Conditions: none. -/
import Derived.Test.YtphclapfniepoaaGreatAb5
import Derived.IntWalk
namespace Go.Abs
open Go
section
def Ex (P : Program) (c : Code) (σ : AS) (e : Exit) (τ : AS) : Prop := ∀ (a : Act) (E : Env),SR σ a E → c.wp P (Post E fun e' τ' => e' = e ∧ τ' = τ) a E.w
def WP (P : Program) (c : Code) (Q : Exit → AS → Prop) (σ : AS) : Prop := (∃ a E,SR σ a E) → ∃ e τ,Q e τ ∧ Ex P c σ e τ
theorem wp_has {P : Program} {c : Code} {Q : Exit → Act → World → Prop} {a : Act} {w : World} (h : c.wp P Q a w) : ∃ e a' w',Q e a' w' :=
 let ⟨e,a',w',h1,_⟩:=h (Frame.enter P 0 #[] .normal) [] []
 ⟨e,a',w',h1⟩
theorem Ex.has {P : Program} {c : Code} {σ : AS} {e : Exit} {τ : AS} (h : Ex P c σ e τ) (hs : ∃ a E,SR σ a E) : ∃ a E,SR τ a E := by
 obtain ⟨a,E,hs⟩:=hs
 obtain ⟨_,a',w', τ',E',_,h1,_,_,rfl⟩:=wp_has (h a E hs)
 exact ⟨a',E',h1⟩
theorem WP.run {P : Program} {c : Code} {Q : Exit → AS → Prop} {σ : AS} (h : WP P c Q σ) {a : Act} {E : Env} (hs : SR σ a E) : c.wp P (Post E Q) a E.w := by
 obtain ⟨e, τ,hq,hx⟩:=h ⟨a,E,hs⟩
 refine wp_mono (hx a E hs) fun e' a' w' ⟨τ',E',h1,h2,h3,h4,h5⟩=>⟨τ',E',h1,h2,h3, ?_⟩
 subst h4 h5
 exact hq
theorem WP.ex {P : Program} {c : Code} {σ : AS} {ρ : Type} {Q : ρ → Exit → AS → Prop} (h : WP P c (fun e τ => ∃ r,Q r e τ) σ) (hs : ∃ a E,SR σ a E) : ∃ r,WP P c (Q r) σ := by
 obtain ⟨e, τ,⟨r,hq⟩,hx⟩:=h hs
 exact ⟨r,fun _=>⟨e, τ,hq,hx⟩⟩
structure AS.le (σ' σ : AS) : Prop where
 n : σ'.n = σ.n
 tmps : ∀ t x,lk σ'.tmps t = some x → ∃ y,lk σ.tmps t = some y ∧ ∀ E v,Rep E y v → Rep E x v
 heap : ∀ id,lk σ'.heap id = lk σ.heap id
theorem SR.le {σ σ' : AS} (h : AS.le σ' σ) {a : Act} {E : Env} (hs : SR σ a E) : SR σ' a E :=
 ⟨by rw [hs.heap]; funext id; exact (h.heap id).symm,hs.hr,hs.defers,by rw [hs.size,h.n],fun t x ht=>by
   obtain ⟨y,hy,hyx⟩:=h.tmps t x ht
   obtain ⟨v,h1,h2⟩:=hs.tmps t y hy
   exact ⟨v,h1,hyx E v h2⟩⟩
theorem AS.le_refl (σ : AS) : AS.le σ σ := ⟨rfl,fun _ x h => ⟨x,h,fun _ _ h => h⟩,fun _ => rfl⟩
def tmpsIn : NL AV → NL AV → Prop
 | [],_=>True
 | (t,x) :: r,l=>lk l t = some x ∧ tmpsIn r l
theorem tmpsIn_lk : ∀ {l' l : NL AV},tmpsIn l' l → ∀ t x,lk l' t = some x → lk l t = some x
 | [],_,_,t,x,h=>by simp [lk] at h
 | (s,y) :: r,l,h,t,x,hl=>by
   simp only [tmpsIn] at h
   simp only [lk] at hl
   split at hl
   · rename_i e
     subst e
     simp only [Option.some.injEq] at hl
     subst hl
     exact h.1
   · exact tmpsIn_lk h.2 t x hl
theorem AS.le_of {n m : Nat} {ts' ts : NL AV} {h' h : NL ABlk} (hn : n = m) (ht : tmpsIn ts' ts) (hh : ∀ id,lk h' id = lk h id) : AS.le ⟨n,ts',h'⟩ ⟨m,ts,h⟩ := ⟨hn,fun t x h => ⟨x,tmpsIn_lk ht t x h,fun _ _ h => h⟩,hh⟩
theorem WP.mono {P : Program} {c : Code} {Q Q' : Exit → AS → Prop} {σ : AS} (h : WP P c Q σ) (hq : ∀ e σ,Q e σ → Q' e σ) : WP P c Q' σ := fun hs =>
 let ⟨e, τ,h1,h2⟩:=h hs
 ⟨e, τ,hq _ _ h1,h2⟩
theorem WP.weak {P : Program} {c : Code} {Q : Exit → AS → Prop} {σ σ' : AS} (hl : AS.le σ' σ) (h : WP P c Q σ') : WP P c Q σ := fun ⟨a,E,hs⟩ =>
 let ⟨e, τ,h1,h2⟩:=h ⟨a,E,hs.le hl⟩
 ⟨e, τ,h1,fun a E hs=>h2 a E (hs.le hl)⟩
theorem WP.seq {P : Program} {x y : Code} {Q : Exit → AS → Prop} {σ : AS} (h : WP P x (fun e σ' => match e with
   | .normal=>WP P y Q σ'
   | e=>Q e σ') σ) : WP P (.seq x y) Q σ:=fun hs=>by
 obtain ⟨e, τ,h1,h2⟩:=h hs
 have hτ:=h2.has hs
 cases e with
 | normal =>
   obtain ⟨e, υ,h3,h4⟩:=h1 hτ
   refine ⟨e, υ,h3,fun a E hs=>wp_seq (wp_mono (h2 a E hs) fun e a' w' hp=>?_)⟩
   obtain ⟨σ',E',rfl,k1,k2,rfl,rfl⟩:=hp
   refine wp_mono (h4 a' E' k1) fun e a'' w'' hp=>?_
   obtain ⟨σ'',E'',rfl,g1,g2,g3⟩:=hp
   exact ⟨σ'',E'',rfl,g1,k2.trans g2,g3⟩
 | _ =>
   refine ⟨_, τ,h1,fun a E hs=>wp_seq (wp_mono (h2 a E hs) fun e a' w' hp=>?_)⟩
   obtain ⟨σ',E',rfl,k1,k2,rfl,rfl⟩:=hp
   exact ⟨_,E',rfl,k1,k2,rfl,rfl⟩
theorem WP.skip {P : Program} {Q : Exit → AS → Prop} {σ : AS} (h : Q .normal σ) : WP P .skip Q σ := fun _ => ⟨_,_,h,fun _ E hs => wp_skip ⟨σ,E,rfl,hs,Step.refl E,rfl,rfl⟩⟩
theorem WP.label {P : Program} {n : Nat} {Q : Exit → AS → Prop} {σ : AS} (h : Q .normal σ) : WP P (.label n) Q σ := fun _ => ⟨_,_,h,fun _ E hs => wp_label ⟨σ,E,rfl,hs,Step.refl E,rfl,rfl⟩⟩
theorem WP.exit {P : Program} {n : Nat} {Q : Exit → AS → Prop} {σ : AS} (h : Q (.exit n) σ) : WP P (.exit n) Q σ := fun _ => ⟨_,_,h,fun _ E hs => wp_exit ⟨σ,E,rfl,hs,Step.refl E,rfl,rfl⟩⟩
theorem WP.ret {P : Program} {Q : Exit → AS → Prop} {σ : AS} (h : Q .ret σ) : WP P .ret Q σ := fun _ => ⟨_,_,h,fun _ E hs => wp_ret ⟨σ,E,rfl,hs,Step.refl E,rfl,rfl⟩⟩
theorem WP.region {P : Program} {specs : FuncId → Option Spec} {kk : Nat} (hm : P.follows .mixedOrders = true) (hsp : ∀ f s,specs f = some s → FnC P f s.fn) {id : Nat} {ops : Array Oper} {draw : Bool} {Q : Exit → AS → Prop} {σ σ' : AS} {A : Prop}
   (hr : runR P specs kk ops draw σ = some (σ',A)) (h : A → Q .normal σ') : WP P (.region id ops draw) Q σ:=fun ⟨a,E,hs⟩=>by
 have key : ∀ (a : Act) (E : Env),SR σ a E → (Code.region id ops draw).wp P (Post E fun e' τ'=>e' = .normal ∧ τ' = σ' ∧ A) a E.w:=fun a E hs =>
   awp_sound hm hsp (.region id ops draw) hs (by simp only [awp]; exact ⟨kk,by simp only [hr]; exact fun hA=>⟨trivial,trivial,hA⟩⟩)
 obtain ⟨_,_,_,_,_,_,_,_,_,_,hA⟩:=wp_has (key a E hs)
 exact ⟨_, σ',h hA,fun a E hs=>wp_mono (key a E hs) fun e' a' w' ⟨τ',E',g1,g2,g3,g4,g5,_⟩=>⟨τ',E',g1,g2,g3,g4,g5⟩⟩
theorem WP.cond {P : Program} {c : Operand} {x y : Code} {b : Bool} {Q : Exit → AS → Prop} {σ : AS} (hc : σ.ev c = .bool b) (ht : b = true → WP P x Q σ) (hf : b = false → WP P y Q σ) : WP P (.cond c x y) Q σ := fun hs => by
 have he : ∀ (a : Act) (E : Env),SR σ a E → a.eval c = .bool b:=fun a E hs=>by
   have h:=hs.ev c
   rw [hc] at h
   simpa only [Rep] using h
 cases b with
 | true =>
   obtain ⟨e, τ,h1,h2⟩:=ht rfl hs
   exact ⟨e, τ,h1,fun a E hs=>wp_cond_split (he a E hs) (fun _=>h2 a E hs) (fun h=>by cases h)⟩
 | false =>
   obtain ⟨e, τ,h1,h2⟩:=hf rfl hs
   exact ⟨e, τ,h1,fun a E hs=>wp_cond_split (he a E hs) (fun h=>by cases h) (fun _=>h2 a E hs)⟩
theorem WP.block {P : Program} {id : Nat} {x : Code} {Q : Exit → AS → Prop} {σ : AS} (h : WP P x (fun e σ' => match e with
   | .exit i=>if i = id then Q .normal σ' else Q (.exit i) σ'
   | e=>Q e σ') σ) : WP P (.block id x) Q σ:=fun hs=>by
 obtain ⟨e, τ,h1,h2⟩:=h hs
 refine ⟨(match e with
   | .exit i=>if i = id then .normal else .exit i
   | e=>e), τ, ?_,fun a E hs=>wp_block (wp_mono (h2 a E hs) fun e' a' w' hp=>?_)⟩
 · cases e with
   | exit i =>
     dsimp only at h1 ⊢
     split
     · rename_i e; rw [if_pos e] at h1; exact h1
     · rename_i e; rw [if_neg e] at h1; exact h1
   | _=>exact h1
 · obtain ⟨σ',E',rfl,g1,g2,rfl,rfl⟩:=hp
   cases e' with
   | exit i =>
     simp only [Exit.inBlock]
     split
     · exact ⟨_,E',rfl,g1,g2,rfl,rfl⟩
     · exact ⟨_,E',rfl,g1,g2,rfl,rfl⟩
   | _=>exact ⟨_,E',rfl,g1,g2,rfl,rfl⟩
theorem WP.loop {P : Program} {x : Code} {Q : Exit → AS → Prop} {ι : Type} (J : ι → AS) (m : ι → Nat)
   (step : ∀ i,WP P x (fun e σ'=>match e with
     | .normal => ∃ j,m j < m i ∧ AS.le (J j) σ'
     | e=>Q e σ') (J i)) {σ : AS} (i : ι) (h0 : AS.le (J i) σ) : WP P (.loop x) Q σ:=by
 have key : ∀ (n : Nat) (i : ι),m i < n → (∃ a E,SR (J i) a E) → ∃ e τ,Q e τ ∧ ∀ (a : Act) (E0 E : Env),Step E0 E → SR (J i) a E → Code.rounds P x (Post E0 fun e' τ'=>e' = e ∧ τ' = τ) n a E.w:=by
   intro n
   induction n with
   | zero=>intro i h; omega
   | succ n ih =>
     intro i hi hs
     obtain ⟨e, τ,h1,h2⟩:=step i hs
     have hτ:=h2.has hs
     cases e with
     | normal =>
       obtain ⟨j,hj,hle⟩:=h1
       obtain ⟨a',E',hs'⟩:=hτ
       obtain ⟨e, υ,h3,h4⟩:=ih j (by omega) ⟨a',E',hs'.le hle⟩
       refine ⟨e, υ,h3,fun a E0 E hst hs=>?_⟩
       rw [rounds_succ]
       refine wp_mono (h2 a E hs) fun e a'' w'' hp=>?_
       obtain ⟨σ2,E2,rfl,k1,k2,rfl,rfl⟩:=hp
       exact h4 a'' E0 E2 (hst.trans k2) (k1.le hle)
     | _ =>
       refine ⟨_, τ,h1,fun a E0 E hst hs=>?_⟩
       rw [rounds_succ]
       refine wp_mono (h2 a E hs) fun e a'' w'' hp=>?_
       obtain ⟨σ2,E2,rfl,k1,k2,rfl,rfl⟩:=hp
       exact ⟨_,E2,rfl,k1,hst.trans k2,rfl,rfl⟩
 intro ⟨a,E,hs⟩
 obtain ⟨e, τ,h1,h2⟩:=key (m i + 1) i (by omega) ⟨a,E,hs.le h0⟩
 exact ⟨e, τ,h1,fun a E hs=>wp_loop_rounds (m i + 1) (h2 a E E (Step.refl E) (hs.le h0))⟩
def specOf (l : NL Spec) (f : FuncId) : Option Spec := lk l f
theorem specOf_ok {P : Program} {l : NL Spec} (h : ∀ p ∈ l,FnC P p.1 p.2.fn) : ∀ f s,specOf l f = some s → FnC P f s.fn := by
 intro f s hs
 unfold specOf at hs
 induction l with
 | nil=>simp [lk] at hs
 | cons p r ih =>
   obtain ⟨k,y⟩:=p
   simp only [lk] at hs
   split at hs
   · rename_i e
     subst e
     simp only [Option.some.injEq] at hs
     subst hs
     exact h (k,y) (by simp)
   · exact ih (fun p hp=>h p (by simp [hp])) hs
theorem FnC.of_wp {P : Program} (f : FuncId) {fn : Func} {body : Code}
   (hf : P.funcs[f]? = some fn) (hb : fn.body = some body) (hname : (fn.name == "runtime.NumGoroutine") = false) {S : List AV → Option (AV × List ABlk)}
   (h : ∀ args r B,S args = some (r,B) → WP P body (RetQ P fn r B) (init fn args)) : FnC P f (fun args B=>match B with
     | []=>S args
     | _=>none):=by
 refine ⟨⟨fn,hf,hname,by simp [hb]⟩,fun args B r B' hS E vs hH hr hx=>?_⟩
 cases B with
 | cons b bs=>simp at hS
 | nil =>
   simp only at hS
   have hE0 : E.H = fun _=>none:=by rw [hH]; funext i; simp
   have hsz : vs.size = args.length:=by have:=hx.length; simpa using this
   have hsr : SR (init fn args) { tmps:=vs ++ Array.replicate (fn.ntmps - vs.size) undef,defers:=[] } E:=by
     refine ⟨by rw [hE0]; funext i; simp [init,lk],hr,rfl,by simp [init,hsz],fun t x ht=>?_⟩
     simp only [init,lk_num,Nat.zero_le,if_true,Nat.sub_zero] at ht
     obtain ⟨v,hv,hxv⟩:=hx.get ht
     refine ⟨v, ?_,hxv⟩
     have hlt : t < vs.size:=by rw [hsz]; exact (List.getElem?_eq_some_iff.1 ht).1
     rw [Array.getElem?_append_left hlt]
     simpa using hv
   refine calls_of_wp hf hb (wp_mono ((h args r B' hS).run hsr) fun e a' w' hp=>?_)
   obtain ⟨σ',E1,rfl,h1,h2,he,xs,hxs,hret⟩:=hp
   obtain ⟨v,g1,g2⟩:=resVs_run h1 hxs
   have hfin : ∃ v E',(results fn a'.tmps).run P E1.w = .ok v E1.w ∧ E'.w = E1.w ∧ E'.H = (fun i=>B'[i]?) ∧ HR E' ∧ Step E E' ∧ Rep E' r v:=by
     rcases hret with ⟨rfl,out,q1,rfl,q3⟩ | ⟨exp,q1,q2,rfl⟩
     · obtain ⟨E2,k1,k2,k3,k4⟩:=frzT_run h1.heap h1.hr g2 q1
       have hi:=inlT_rep q3 k4
       have hs:=h2.trans k3
       have hold : ∀ b,b < E.w.heap.size → E2.w.heap[b]? = E.w.heap[b]?:=fun b hb=>hs.old b hb (fun id blk h=>by simp [hE0] at h)
       refine ⟨v,⟨E2.w,fun _=>none,E2.φ,E2.cs,E2.F⟩,g1,k1,by funext i; simp,⟨fun _ _ h=>by simp at h,fun _ _ _ _ h=>by simp at h,fun _ _ h=>by simp at h,k2.fb⟩,⟨hs.size,fun b hb _=>hold b hb,hs.fo,fun id blk h=>by simp [hE0] at h,fun _ _ h=>by simp at h,hs.kept⟩, ?_⟩
       exact RepI.rep _ _ (RepI.mono (fun b hb=>⟨⟨hb.1,hb.2.1,fun _ _ h=>by simp at h⟩,rfl⟩) _ _ hi)
     · obtain ⟨E',k1,k2,k3,k4,k5⟩:=export_env hE0 h1.heap h1.hr h2 q1 q2
       exact ⟨v,E',g1,k1,k2,k3,k4,ren_rep k5 _ _ g2⟩
   obtain ⟨v',E',r1,r2,r3,r4,r5,r6⟩:=hfin
   have hfinal : bodyPost P fn (fun e w' => ∃ v E',e = .returned v ∧ E'.w = w' ∧ E'.H = (fun i=>B'[i]?) ∧ HR E' ∧ Step E E' ∧ Rep E' r v) .ret a' E1.w :=
     ⟨h1.defers,v',r1,v',E',rfl,r2,r3,r4,r5,r6⟩
   rcases he with rfl | rfl
   · exact hfinal
   · exact hfinal
def codeOf (f : Func) : Code := match f.body with
 | some c=>c
 | none => .skip
def cL : Code → Code
 | .seq x _=>x
 | .cond _ x _=>x
 | .block _ x=>x
 | .loop x=>x
 | c=>c
def cR : Code → Code
 | .seq _ y=>y
 | .cond _ _ y=>y
 | c=>c
theorem WP.loopN {P : Program} {c : Code} {Q : Exit → AS → Prop} (hc : c = .loop (cL c)) {ι : Type} (J : ι → AS) (m : ι → Nat)
   (step : ∀ i,WP P (cL c) (fun e σ'=>match e with
     | .normal => ∃ j,m j < m i ∧ AS.le (J j) σ'
     | e=>Q e σ') (J i)) {σ : AS} (i : ι) (h0 : AS.le (J i) σ) : WP P c Q σ:=by rw [hc]; exact WP.loop J m step i h0
open Classical in
noncomputable def mkS {α : Type} (enc : α → List AV) (res : α → AV × List ABlk) : SpecFn := fun args B =>
 if h : B = [] ∧ ∃ x,enc x = args then some (res h.2.choose) else none
theorem mkS_eq {α : Type} {enc : α → List AV} {res : α → AV × List ABlk} (inj : ∀ x y,enc x = enc y → res x = res y) (x : α) : mkS enc res (enc x) [] = some (res x) := by
 unfold mkS
 have h : ([] : List ABlk) = [] ∧ ∃ y,enc y = enc x:=⟨rfl,x,rfl⟩
 rw [dif_pos h,inj _ _ h.2.choose_spec]
theorem FnC.ofEnc {P : Program} {α : Type} {enc : α → List AV} {res : α → AV × List ABlk} (f : FuncId) {fn : Func} (hf : P.funcs[f]? = some fn) (hb : fn.body = some (codeOf fn)) (hname : (fn.name == "runtime.NumGoroutine") = false)
   (h : ∀ x,WP P (codeOf fn) (RetQ P fn (res x).1 (res x).2) (init fn (enc x))) : FnC P f (mkS enc res):=by
 have h1:=FnC.of_wp (P:=P) f hf hb hname (S:=fun args=>mkS enc res args []) (fun args r B hS=>by
   unfold mkS at hS
   split at hS
   · rename_i hx
     simp only [Option.some.injEq] at hS
     have h2:=h hx.2.choose
     rw [hx.2.choose_spec,hS] at h2
     exact h2
   · cases hS)
 refine ⟨h1.fn,fun args B r B' hS E vs hH hr hx=>?_⟩
 cases B with
 | nil=>exact h1.calls args [] r B' hS E vs hH hr hx
 | cons b bs=>simp [mkS] at hS
theorem run_ret {α : Type} (a : α) (H : NL ABlk) : (AP.ret a).run H = some ⟨a,H,[],[],True⟩ := rfl
theorem run_fail {α : Type} (H : NL ABlk) : (AP.fail (α := α)).run H = none := rfl
theorem run_get {α : Type} (id : Nat) (k : ABlk → AP α) (H : NL ABlk) : (AP.get id k).run H = match (k ((lk H id).getD {})).run H with
   | some o=>some ⟨o.val,o.H,id :: o.rd,o.wr,o.as⟩
   | none=>none:=by
 simp only [AP.run]
 cases lk H id <;> rfl
theorem run_put {α : Type} (id : Nat) (b : ABlk) (k : AP α) (H : NL ABlk) : (AP.put id b k).run H = match k.run (st H id b) with
   | some o=>some ⟨o.val,o.H,o.rd,id :: o.wr,o.as⟩
   | none=>none:=rfl
theorem run_asm {α : Type} (p : Prop) (k : AP α) (H : NL ABlk) : (AP.asm p k).run H = match k.run H with
   | some o=>some ⟨o.val,o.H,o.rd,o.wr,p ∧ o.as⟩
   | none=>none:=rfl
end
section
inductive Fr where
 | seq (c : Code)
 | blk (id : Nat)
 | loop (back : AS → Prop)
def post (P : Program) (Q : AS → Prop) : List Fr → Exit → AS → Prop
 | [],e, σ=>(e = .normal ∨ e = .ret) ∧ Q σ
 | .seq y :: fs,e, σ=>match e with
   | .normal=>WP P y (post P Q fs) σ
   | e=>post P Q fs e σ
 | .blk id :: fs,e, σ=>match e with
   | .exit i=>if i = id then post P Q fs .normal σ else post P Q fs (.exit i) σ
   | e=>post P Q fs e σ
 | .loop b :: fs,e, σ=>match e with
   | .normal=>b σ
   | e=>post P Q fs e σ
structure W (P : Program) (Q : AS → Prop) (c : Code) (fs : List Fr) (σ : AS) : Prop where
 h : WP P c (post P Q fs) σ
structure N (P : Program) (Q : AS → Prop) (fs : List Fr) (σ : AS) : Prop where
 h : post P Q fs .normal σ
structure X (P : Program) (Q : AS → Prop) (i : Nat) (fs : List Fr) (σ : AS) : Prop where
 h : post P Q fs (.exit i) σ
variable {P : Program} {Q : AS → Prop}
theorem post_ret : ∀ (fs : List Fr) (σ : AS),Q σ → post P Q fs .ret σ
 | [],_,h=>⟨.inr rfl,h⟩
 | .seq _ :: fs, σ,h=>post_ret fs σ h
 | .blk _ :: fs, σ,h=>post_ret fs σ h
 | .loop _ :: fs, σ,h=>post_ret fs σ h
theorem N.nil {σ : AS} (h : Q σ) : N P Q [] σ := ⟨.inl rfl,h⟩
theorem N.seq {y : Code} {fs : List Fr} {σ : AS} (h : W P Q y fs σ) : N P Q (.seq y :: fs) σ := ⟨h.h⟩
theorem N.blk {id : Nat} {fs : List Fr} {σ : AS} (h : N P Q fs σ) : N P Q (.blk id :: fs) σ := ⟨h.h⟩
theorem N.loop {b : AS → Prop} {fs : List Fr} {σ : AS} (h : b σ) : N P Q (.loop b :: fs) σ := ⟨h⟩
theorem X.seq {i : Nat} {y : Code} {fs : List Fr} {σ : AS} (h : X P Q i fs σ) : X P Q i (.seq y :: fs) σ := ⟨h.h⟩
theorem X.loop {i : Nat} {b : AS → Prop} {fs : List Fr} {σ : AS} (h : X P Q i fs σ) : X P Q i (.loop b :: fs) σ := ⟨h.h⟩
theorem X.hit {i : Nat} {fs : List Fr} {σ : AS} (h : N P Q fs σ) : X P Q i (.blk i :: fs) σ := by
 refine ⟨?_⟩
 simp only [post,if_true]
 exact h.h
theorem X.pass {i j : Nat} {fs : List Fr} {σ : AS} (hne : i ≠ j) (h : X P Q i fs σ) : X P Q i (.blk j :: fs) σ := by
 refine ⟨?_⟩
 simp only [post,if_neg hne]
 exact h.h
theorem W.seq {c : Code} {fs : List Fr} {σ : AS} (hc : c = .seq (cL c) (cR c)) (h : W P Q (cL c) (.seq (cR c) :: fs) σ) : W P Q c fs σ := by
 refine ⟨?_⟩
 rw [hc]
 exact WP.seq (h.h.mono fun e σ h=>by cases e <;> exact h)
theorem W.block {c : Code} {fs : List Fr} {σ : AS} {id : Nat} (hc : c = .block id (cL c)) (h : W P Q (cL c) (.blk id :: fs) σ) : W P Q c fs σ := by
 refine ⟨?_⟩
 rw [hc]
 exact WP.block (h.h.mono fun e σ h=>by cases e <;> exact h)
theorem W.skip {c : Code} {fs : List Fr} {σ : AS} (hc : c = .skip) (h : N P Q fs σ) : W P Q c fs σ := by
 refine ⟨?_⟩
 rw [hc]
 exact WP.skip h.h
theorem W.exit {c : Code} {fs : List Fr} {σ : AS} {i : Nat} (hc : c = .exit i) (h : X P Q i fs σ) : W P Q c fs σ := by
 refine ⟨?_⟩
 rw [hc]
 exact WP.exit h.h
theorem W.ret {c : Code} {fs : List Fr} {σ : AS} (hc : c = .ret) (h : Q σ) : W P Q c fs σ := by
 refine ⟨?_⟩
 rw [hc]
 exact WP.ret (post_ret fs σ h)
theorem W.cond {c : Code} {fs : List Fr} {σ : AS} {t : Nat} {b : Bool} (hc : c = .cond (.tmp t) (cL c) (cR c)) (hv : lk σ.tmps t = some (.bool b)) (ht : b = true → W P Q (cL c) fs σ) (hf : b = false → W P Q (cR c) fs σ) : W P Q c fs σ := by
 refine ⟨?_⟩
 rw [hc]
 exact WP.cond (by simp [AS.ev,hv]) (fun e=>(ht e).h) (fun e=>(hf e).h)
theorem W.condT {c : Code} {fs : List Fr} {σ : AS} {t : Nat} (hc : c = .cond (.tmp t) (cL c) (cR c)) (hv : lk σ.tmps t = some (.bool true)) (ht : W P Q (cL c) fs σ) : W P Q c fs σ :=
 W.cond hc hv (fun _=>ht) (fun h=>by cases h)
theorem W.condF {c : Code} {fs : List Fr} {σ : AS} {t : Nat} (hc : c = .cond (.tmp t) (cL c) (cR c)) (hv : lk σ.tmps t = some (.bool false)) (hf : W P Q (cR c) fs σ) : W P Q c fs σ :=
 W.cond hc hv (fun h=>by cases h) (fun _=>hf)
theorem W.region {specs : NL Spec} (hm : P.follows .mixedOrders = true) (hsp : ∀ p ∈ specs,FnC P p.1 p.2.fn) {c : Code} {fs : List Fr} {id : Nat} {ops : Array Oper} (hc : c = .region id ops false) {σ σ' : AS} {A : Prop}
   (hr : runL P (specOf specs) 0 ops ops.toList σ = some (σ',A)) (h : A → N P Q fs σ') : W P Q c fs σ:=by
 refine ⟨?_⟩
 rw [hc]
 exact WP.region hm (specOf_ok hsp) hr fun hA=>(h hA).h
def drawOK (ops : Array Oper) (rw : List (List Nat × List Nat)) : Bool := match openPairs ops with
 | some l=>l.all fun p=>match rw.getD p.1 ([],[]),rw.getD p.2 ([],[]) with
   | (r1,w1),(r2,w2)=>w1.all (fun id => !r2.contains id && !w2.contains id) && w2.all (fun id => !r1.contains id)
 | none=>false
theorem fp_getD (fps : List FP) (i : Nat) : (fps.map fun f => (f.rd,f.wr)).getD i ([],[]) = ((fps.getD i nofp).rd,(fps.getD i nofp).wr) := by
 simp only [List.getD_eq_getElem?_getD,List.getElem?_map]
 cases fps[i]? <;> rfl
theorem W.regionD {specs : NL Spec} (hm : P.follows .mixedOrders = true) (hsp : ∀ p ∈ specs,FnC P p.1 p.2.fn) {c : Code} {fs : List Fr} {id : Nat} {ops : Array Oper} (hc : c = .region id ops true) {σ σ' : AS} {fps : List FP} {rw' : List (List Nat × List Nat)}
   (hr : runF P (specOf specs) 0 ops ops.toList σ = some (σ',fps)) (hrw : (fps.map fun f=>(f.rd,f.wr)) = rw') (ho : drawOK ops rw' = true) (h : asAll fps → N P Q fs σ') : W P Q c fs σ:=by
 refine ⟨?_⟩
 rw [hc]
 refine WP.region (kk:=0) hm (specOf_ok hsp) (A:=asAll fps) ?_ fun hA=>(h hA).h
 subst hrw
 unfold drawOK at ho
 simp only [runR,runD]
 split at ho
 · rename_i l hl
   simp only [hl,hr]
   rw [if_pos]
   rw [← ho]
   congr 1
   funext p
   rw [fp_getD,fp_getD]
   rfl
 · cases ho
theorem W.loop {c : Code} {fs : List Fr} {σ : AS} (hc : c = .loop (cL c)) {ι : Type} (J : ι → AS) (m : ι → Nat) (i : ι) (h0 : AS.le (J i) σ)
   (step : ∀ i,W P Q (cL c) (.loop (fun σ' => ∃ j,m j < m i ∧ AS.le (J j) σ') :: fs) (J i)) : W P Q c fs σ:=by
 refine ⟨?_⟩
 rw [hc]
 exact WP.loop J m (fun i=>(step i).h.mono fun e σ h=>by cases e <;> exact h) i h0
theorem W.weak {c : Code} {fs : List Fr} {σ σ' : AS} (hl : AS.le σ' σ) (h : W P Q c fs σ') : W P Q c fs σ := ⟨WP.weak hl h.h⟩
def Ret (P : Program) (fn : Func) (r : AV) (B : List ABlk) (σ : AS) : Prop :=
 ∃ xs,resVs P σ fn.results.toList = some xs ∧
   ((B = [] ∧ ∃ out,(frzT (pack xs) .ret).run σ.heap = some out ∧ out.val = r ∧ inlT r = true) ∨
    (∃ exp : List Nat,exp.Nodup ∧ exp.map (expB σ.heap) = B.map some ∧ r = (pack xs).ren (expF exp σ.heap)))
theorem Ret.data {fn : Func} {r : AV} {σ : AS} {xs : List AV} {H : NL ABlk} {rd wr : List Nat} {A : Prop} {rs : List ResultVar} (h0 : fn.results.toList = rs) (h1 : resVs P σ rs = some xs) (h2 : (frzT (pack xs) .ret).run σ.heap = some ⟨r,H,rd,wr,A⟩) (h3 : inlT r = true) : Ret P fn r [] σ :=
 ⟨xs,by rw [h0]; exact h1, .inl ⟨rfl,_,h2,rfl,h3⟩⟩
theorem Ret.news {fn : Func} {r : AV} {B : List ABlk} {σ : AS} {xs : List AV} {rs : List ResultVar} (exp : List Nat) (h0 : fn.results.toList = rs) (h1 : resVs P σ rs = some xs) (h2 : exp.Nodup) (h3 : exp.map (expB σ.heap) = B.map some) (h4 : r = (pack xs).ren (expF exp σ.heap)) : Ret P fn r B σ :=
 ⟨xs,by rw [h0]; exact h1, .inr ⟨exp,h2,h3,h4⟩⟩
theorem FnC.walk {α : Type} {enc : α → List AV} {res : α → AV × List ABlk} (f : FuncId) {fn : Func} (hf : P.funcs[f]? = some fn) (hb : fn.body = some (codeOf fn)) (hname : (fn.name == "runtime.NumGoroutine") = false)
   (h : ∀ x,W P (Ret P fn (res x).1 (res x).2) (codeOf fn) [] (init fn (enc x))) : FnC P f (mkS enc res) :=
 FnC.ofEnc f hf hb hname fun x=>(h x).h.mono fun _ _ h=>h
end
section
theorem map_inj {α β : Type} {f : α → β} (hf : ∀ a b,f a = f b → a = b) : ∀ {l m : List α},l.map f = m.map f → l = m
 | [],[],_=>rfl
 | [],_ :: _,h=>by simp at h
 | _ :: _,[],h=>by simp at h
 | a :: r,b :: s,h=>by
   simp only [List.map_cons,List.cons.injEq] at h
   rw [hf a b h.1,map_inj hf h.2]
theorem w64 {x : Int} (h1 : -9223372036854775808 ≤ x) (h2 : x ≤ 9223372036854775807) : IntKind.i64.wrap x = x := IntWalk.i64_in x ⟨h1,h2⟩
theorem wu64 {x : Int} (h1 : 0 ≤ x) (h2 : x ≤ 18446744073709551615) : IntKind.u64.wrap x = x := IntWalk.u64_in x ⟨h1,h2⟩
theorem get_lt {α : Type} {l : List α} {i : Nat} (h : i < l.length) : ∃ x,l[i]? = some x := ⟨l[i],List.getElem?_eq_getElem h⟩
theorem no_specs {P : Program} : ∀ p ∈ ([] : NL Spec),FnC P p.1 p.2.fn := by simp
@[simp] theorem cellish_bool (b : Bool) : AV.cellish (AV.bool b) = true := (rfl)
@[simp] theorem isInl_bool (b : Bool) : AV.isInl (AV.bool b) = true := (rfl)
@[simp] theorem flat1_bool (b : Bool) : AV.flat1 (AV.bool b) = true := (rfl)
@[simp] theorem cellish_int (k : IntKind) (n : Int) : AV.cellish (AV.int k n) = true := (rfl)
@[simp] theorem isInl_int (k : IntKind) (n : Int) : AV.isInl (AV.int k n) = true := (rfl)
@[simp] theorem flat1_int (k : IntKind) (n : Int) : AV.flat1 (AV.int k n) = true := (rfl)
@[simp] theorem cellish_str (s : ByteArray) : AV.cellish (AV.str s) = true := (rfl)
@[simp] theorem isInl_str (s : ByteArray) : AV.isInl (AV.str s) = true := (rfl)
@[simp] theorem flat1_str (s : ByteArray) : AV.flat1 (AV.str s) = true := (rfl)
@[simp] theorem cellish_nilp : AV.cellish (AV.nilp) = true := (rfl)
@[simp] theorem isInl_nilp : AV.isInl (AV.nilp) = true := (rfl)
@[simp] theorem flat1_nilp : AV.flat1 (AV.nilp) = true := (rfl)
@[simp] theorem cellish_cptr (cs : List AV) : AV.cellish (AV.cptr cs) = true := (rfl)
@[simp] theorem isInl_cptr (cs : List AV) : AV.isInl (AV.cptr cs) = true := (rfl)
@[simp] theorem flat1_cptr (cs : List AV) : AV.flat1 (AV.cptr cs) = false := (rfl)
@[simp] theorem cellish_nils : AV.cellish (AV.nils) = true := (rfl)
@[simp] theorem isInl_nils : AV.isInl (AV.nils) = true := (rfl)
@[simp] theorem flat1_nils : AV.flat1 (AV.nils) = true := (rfl)
@[simp] theorem cellish_list (z : Nat) (rows : List (List AV)) : AV.cellish (AV.list z rows) = true := (rfl)
@[simp] theorem isInl_list (z : Nat) (rows : List (List AV)) : AV.isInl (AV.list z rows) = true := (rfl)
@[simp] theorem flat1_list (z : Nat) (rows : List (List AV)) : AV.flat1 (AV.list z rows) = false := (rfl)
@[simp] theorem cellish_nilf : AV.cellish (AV.nilf) = true := (rfl)
@[simp] theorem isInl_nilf : AV.isInl (AV.nilf) = true := (rfl)
@[simp] theorem flat1_nilf : AV.flat1 (AV.nilf) = true := (rfl)
@[simp] theorem cellish_nilm : AV.cellish (AV.nilm) = true := (rfl)
@[simp] theorem isInl_nilm : AV.isInl (AV.nilm) = true := (rfl)
@[simp] theorem flat1_nilm : AV.flat1 (AV.nilm) = true := (rfl)
@[simp] theorem cellish_ptr (i : Nat) (g : Nat) (r : Nat) (o : Nat) : AV.cellish (AV.ptr i g r o) = true := (rfl)
@[simp] theorem isInl_ptr (i : Nat) (g : Nat) (r : Nat) (o : Nat) : AV.isInl (AV.ptr i g r o) = false := (rfl)
@[simp] theorem flat1_ptr (i : Nat) (g : Nat) (r : Nat) (o : Nat) : AV.flat1 (AV.ptr i g r o) = false := (rfl)
@[simp] theorem cellish_sl (i : Nat) (g : Nat) (o : Nat) (l : Nat) : AV.cellish (AV.sl i g o l) = true := (rfl)
@[simp] theorem isInl_sl (i : Nat) (g : Nat) (o : Nat) (l : Nat) : AV.isInl (AV.sl i g o l) = false := (rfl)
@[simp] theorem flat1_sl (i : Nat) (g : Nat) (o : Nat) (l : Nat) : AV.flat1 (AV.sl i g o l) = false := (rfl)
@[simp] theorem cellish_amap (i : Nat) (g : Nat) : AV.cellish (AV.amap i g) = true := (rfl)
@[simp] theorem isInl_amap (i : Nat) (g : Nat) : AV.isInl (AV.amap i g) = false := (rfl)
@[simp] theorem flat1_amap (i : Nat) (g : Nat) : AV.flat1 (AV.amap i g) = false := (rfl)
@[simp] theorem cellish_psl (i : Nat) (g : Nat) (r : Nat) (o : Nat) (l : Nat) : AV.cellish (AV.psl i g r o l) = true := (rfl)
@[simp] theorem cellish_slc (i : Nat) (g : Nat) (r : Nat) (o : Nat) (l : Nat) : AV.cellish (AV.slc i g r o l) = false := (rfl)
@[simp] theorem isInl_psl (i : Nat) (g : Nat) (r : Nat) (o : Nat) (l : Nat) : AV.isInl (AV.psl i g r o l) = false := (rfl)
@[simp] theorem isInl_slc (i : Nat) (g : Nat) (r : Nat) (o : Nat) (l : Nat) : AV.isInl (AV.slc i g r o l) = false := (rfl)
@[simp] theorem flat1_psl (i : Nat) (g : Nat) (r : Nat) (o : Nat) (l : Nat) : AV.flat1 (AV.psl i g r o l) = false := (rfl)
@[simp] theorem flat1_slc (i : Nat) (g : Nat) (r : Nat) (o : Nat) (l : Nat) : AV.flat1 (AV.slc i g r o l) = false := (rfl)
@[simp] theorem cellish_fn (f : Fn) (a b : List AV) : AV.cellish (.fn f a b) = true := (rfl)
@[simp] theorem isInl_fn (f : Fn) : AV.isInl (.fn f [] []) = true := (rfl)
@[simp] theorem cellish_agg (cs : List AV) : AV.cellish (.agg cs) = false := (rfl)
@[simp] theorem isInl_agg (cs : List AV) : AV.isInl (.agg cs) = false := (rfl)
@[simp] theorem isInl_tup (cs : List AV) : AV.isInl (.tup cs) = false := (rfl)
@[simp] theorem cellish_tup (cs : List AV) : AV.cellish (.tup cs) = false := (rfl)
@[simp] theorem cellish_any : AV.cellish .any = false := (rfl)
theorem frz1_inl {x : AV} (h : x.isInl = true) (k : AV → AP AV) : frz1 x k = k x := by
 unfold frz1
 split
 · simp at h
 · rw [if_pos h]
theorem brw1_inl {x : AV} (h : x.isInl = true) (k : AV → AP AV) : brw1 x k = k x := by
 unfold brw1
 split
 · simp at h
 · rw [if_pos h]
def AV.inl2 : AV → Bool
 | .agg cs=>cs.all AV.isInl
 | x=>x.isInl
@[simp] theorem inl2_agg (cs : List AV) : AV.inl2 (.agg cs) = cs.all AV.isInl := (rfl)
@[simp] theorem inl2_fn (f : Fn) : AV.inl2 (.fn f [] []) = true := (rfl)
@[simp] theorem inl2_tup (cs : List AV) : AV.inl2 (.tup cs) = false := (rfl)
@[simp] theorem inl2_bool (b : Bool) : AV.inl2 (AV.bool b) = true := (rfl)
@[simp] theorem inl2_int (k : IntKind) (n : Int) : AV.inl2 (AV.int k n) = true := (rfl)
@[simp] theorem inl2_str (s : ByteArray) : AV.inl2 (AV.str s) = true := (rfl)
@[simp] theorem inl2_nilp : AV.inl2 (AV.nilp) = true := (rfl)
@[simp] theorem inl2_cptr (cs : List AV) : AV.inl2 (AV.cptr cs) = true := (rfl)
@[simp] theorem inl2_nils : AV.inl2 (AV.nils) = true := (rfl)
@[simp] theorem inl2_list (z : Nat) (rows : List (List AV)) : AV.inl2 (AV.list z rows) = true := (rfl)
@[simp] theorem inl2_nilf : AV.inl2 (AV.nilf) = true := (rfl)
@[simp] theorem inl2_nilm : AV.inl2 (AV.nilm) = true := (rfl)
@[simp] theorem inl2_ptr (i : Nat) (g : Nat) (r : Nat) (o : Nat) : AV.inl2 (AV.ptr i g r o) = false := (rfl)
@[simp] theorem inl2_sl (i : Nat) (g : Nat) (o : Nat) (l : Nat) : AV.inl2 (AV.sl i g o l) = false := (rfl)
@[simp] theorem inl2_amap (i : Nat) (g : Nat) : AV.inl2 (AV.amap i g) = false := (rfl)
@[simp] theorem inl2_psl (i : Nat) (g : Nat) (r : Nat) (o : Nat) (l : Nat) : AV.inl2 (AV.psl i g r o l) = false := (rfl)
@[simp] theorem inl2_slc (i : Nat) (g : Nat) (r : Nat) (o : Nat) (l : Nat) : AV.inl2 (AV.slc i g r o l) = false := (rfl)
@[simp high] theorem frzL_inl : ∀ {l : List AV} (_ : l.all AV.isInl = true) (k : List AV → AP AV),frzL l k = k l
 | [],_,_=>rfl
 | x :: l,h,k=>by
   simp only [List.all_cons,Bool.and_eq_true] at h
   simp only [frzL]
   rw [frz1_inl h.1,frzL_inl h.2]
@[simp high] theorem brwL_inl : ∀ {l : List AV} (_ : l.all AV.isInl = true) (k : List AV → AP AV),brwL l k = k l
 | [],_,_=>rfl
 | x :: l,h,k=>by
   simp only [List.all_cons,Bool.and_eq_true] at h
   simp only [brwL]
   rw [brw1_inl h.1,brwL_inl h.2]
theorem inl2_cases {x : AV} (h : x.inl2 = true) : (∃ cs,x = .agg cs ∧ cs.all AV.isInl = true) ∨ (∃ f,x = .fn f [] []) ∨ (x.isInl = true ∧ (∀ cs,x ≠ .agg cs) ∧ (∀ cs,x ≠ .tup cs) ∧ ∀ f a b,x ≠ .fn f a b) := by
 cases x with
 | agg cs=>exact .inl ⟨cs,rfl,h⟩
 | fn f a b =>
   cases a <;> cases b <;> first
     | exact .inr (.inl ⟨f,rfl⟩)
     | cases h
 | tup cs=>cases h
 | _=>exact .inr (.inr ⟨h,by simp,by simp,by simp⟩)
@[simp high] theorem frzV_inl {x : AV} (h : x.inl2 = true) (k : AV → AP AV) : frzV x k = k x := by
 rcases inl2_cases h with ⟨cs,rfl,h⟩ | ⟨f,rfl⟩ | ⟨h,h1,h2,h3⟩
 · simp only [frzV]; exact frzL_inl h _
 · rfl
 · unfold frzV
   split
   · exact absurd rfl (h1 _)
   · exact absurd rfl (h2 _)
   · exact absurd rfl (h3 _ _ _)
   · exact frz1_inl h k
@[simp high] theorem brwV_inl {x : AV} (h : x.inl2 = true) (k : AV → AP AV) : brwV x k = k x := by
 rcases inl2_cases h with ⟨cs,rfl,h⟩ | ⟨f,rfl⟩ | ⟨h,h1,h2,h3⟩
 · simp only [brwV]; exact brwL_inl h _
 · rfl
 · unfold brwV
   split
   · exact absurd rfl (h1 _)
   · exact absurd rfl (h2 _)
   · exact absurd rfl (h3 _ _ _)
   · exact brw1_inl h k
@[simp high] theorem frzVs_inl : ∀ {l : List AV} (_ : l.all AV.inl2 = true) (k : List AV → AP AV),frzVs l k = k l
 | [],_,_=>rfl
 | x :: l,h,k=>by
   simp only [List.all_cons,Bool.and_eq_true] at h
   simp only [frzVs]
   rw [frzV_inl h.1,frzVs_inl h.2]
@[simp high] theorem brwVs_inl : ∀ {l : List AV} (_ : l.all AV.inl2 = true) (k : List AV → AP AV),brwVs l k = k l
 | [],_,_=>rfl
 | x :: l,h,k=>by
   simp only [List.all_cons,Bool.and_eq_true] at h
   simp only [brwVs]
   rw [brwV_inl h.1,brwVs_inl h.2]
@[simp high] theorem frzP_inl : ∀ {l : List (Nat × AV)} (_ : l.all (fun p => p.2.inl2) = true) (k : List (Nat × AV) → AP AV),frzP l k = k l
 | [],_,_=>rfl
 | (i,x) :: l,h,k=>by
   simp only [List.all_cons,Bool.and_eq_true] at h
   simp only [frzP]
   rw [frzV_inl h.1,frzP_inl h.2]
end
section
def expB2 (exp : List Nat) (H : NL ABlk) (i : Nat) : Option ABlk :=
 match lk H i with
 | some b=>if b.kind = 0 then none else some (renB (expF exp H) 0 b)
 | none=>none
theorem export_envB {E0 E : Env} {B0 : List ABlk} (hE0 : E0.H = fun i => B0[i]?) (hB0 : ∀ b ∈ B0,b.gen = 0) {H : NL ABlk} (hH : E.H = lk H) (hr : HR E) (hs : Step E0 E) {exp : List Nat} (hnd : exp.Nodup)
   (hfirst : ∀ i,i < B0.length → exp[i]? = some i ∧ (lk H i).map (·.gen) = some 0) {B : List ABlk} (hB : exp.map (expB2 exp H) = B.map some) :
   ∃ E',E'.w = E.w ∧ E'.H = (fun i=>B[i]?) ∧ HR E' ∧ Step E0 E' ∧ RenOK (expF exp H) E E':=by
 have hlen : exp.length = B.length:=by have:=congrArg List.length hB; simpa using this
 have hget : ∀ (i : Nat) (b : ABlk),B[i]? = some b → ∃ (id : Nat) (b0 : ABlk),exp[i]? = some id ∧ lk H id = some b0 ∧ b0.kind ≠ 0 ∧ b = renB (expF exp H) 0 b0:=by
   intro i b hb
   have hi : i < exp.length:=by rw [hlen]; exact (List.getElem?_eq_some_iff.1 hb).1
   have h1 : (exp.map (expB2 exp H))[i]? = some (some b):=by rw [hB,List.getElem?_map,hb]; rfl
   rw [List.getElem?_map,List.getElem?_eq_getElem hi,Option.map_some,Option.some.injEq] at h1
   refine ⟨exp[i], ?_⟩
   unfold expB2 at h1
   split at h1
   · rename_i b0 hb0
     split at h1
     · cases h1
     · rename_i hc
       simp only [Option.some.injEq] at h1
       exact ⟨b0,List.getElem?_eq_getElem hi,hb0,hc,h1.symm⟩
   · cases h1
 let φ' : Nat → Nat:=fun i=>E.φ (exp.getD i 0)
 let cs' : Nat → Nat:=fun i=>E.cs (exp.getD i 0)
 have hφ : ∀ (i id : Nat),exp[i]? = some id → φ' i = E.φ id ∧ cs' i = E.cs id:=fun i id h=>by simp [φ',cs',List.getD_eq_getElem?_getD,h]
 have himm : ∀ b,E.imm b → (Env.mk E.w (fun i=>B[i]?) φ' cs' E.F).imm b:=by
   intro b hb
   refine ⟨hb.1,hb.2.1,fun i blk hbk hk hc he=>?_⟩
   obtain ⟨id,b0,h1,h2,h3,rfl⟩:=hget i blk hbk
   obtain ⟨e1,e2⟩:=hφ i id h1
   exact hb.2.2 id b0 (by rw [hH]; exact h2) hk (by simpa only [e2] using hc) (by simpa only [e1] using he)
 have hren : RenOK (expF exp H) E ⟨E.w,fun i=>B[i]?, φ',cs',E.F⟩:=by
   have key : ∀ i g i' g',expF exp H i g = some (i',g') → ∃ b0,lk H i = some b0 ∧ b0.gen = g ∧ g' = 0 ∧ exp[i']? = some i:=by
     intro i g i' g' he
     unfold expF at he
     split at he
     · rename_i k hk
       split at he
       · rename_i b0 hb0
         split at he
         · rename_i hg
           simp only [Option.some.injEq,Prod.mk.injEq] at he
           obtain ⟨rfl,rfl⟩:=he
           refine ⟨b0,hb0,hg,rfl, ?_⟩
           rw [List.idxOf?_eq_some_iff] at hk
           obtain ⟨h1,h2,_⟩:=hk
           rw [List.getElem?_eq_getElem h1]
           simpa using h2
         · cases he
       · cases he
     · cases he
   refine ⟨rfl,himm,fun i g i' g' he blk hb hg=>?_,fun i g i' g' he=>?_⟩
   · obtain ⟨b0,h1,h2,rfl,h4⟩:=key i g i' g' he
     rw [hH] at hb
     rw [h1] at hb; cases hb
     obtain ⟨e1,e2⟩:=hφ i' i h4
     have hk : i' < B.length:=by rw [← hlen]; exact (List.getElem?_eq_some_iff.1 h4).1
     obtain ⟨id,b1,k1,k2,k3,k4⟩:=hget i' _ (List.getElem?_eq_getElem hk)
     rw [h4] at k1; cases k1
     rw [h1] at k2; cases k2
     exact ⟨B[i'],List.getElem?_eq_getElem hk,by rw [k4]; rfl,by rw [k4]; rfl,by rw [k4]; rfl,e1,e2⟩
   · obtain ⟨b0,h1,h2,_⟩:=key i g i' g' he
     exact ⟨b0,by rw [hH]; exact h1,h2⟩
 refine ⟨⟨E.w,fun i=>B[i]?, φ',cs',E.F⟩,rfl,rfl,⟨fun i b hb=>?_,fun i j bi bj hi hj ki kj ci cj hne=>?_,fun i b hb hk hc=>?_,hr.fb⟩,⟨hs.size,hs.old,hs.fo,fun id blk h=>?_,fun i b hb hk hc=>?_,hs.kept⟩,hren⟩
 · obtain ⟨id,b0,h1,h2,h3,rfl⟩:=hget i b hb
   obtain ⟨e1,e2⟩:=hφ i id h1
   exact BlkOK.ren hren e1 e2 (hr.blk id b0 (by rw [hH]; exact h2))
 · obtain ⟨id1,b1,p1,p2,p3,rfl⟩:=hget i bi hi
   obtain ⟨id2,b2,q1,q2,q3,rfl⟩:=hget j bj hj
   obtain ⟨e1,e2⟩:=hφ i id1 p1
   obtain ⟨e3,e4⟩:=hφ j id2 q1
   simp only at ci cj ⊢
   rw [e1,e3]
   refine hr.inj id1 id2 b1 b2 (by rw [hH]; exact p2) (by rw [hH]; exact q2) p3 q3 (by rw [← e2]; exact ci) (by rw [← e4]; exact cj) (fun e=>hne ?_)
   subst e
   have hi':=(List.getElem?_eq_some_iff.1 p1).1
   exact (List.getElem?_inj hi' hnd).1 (by rw [p1,q1])
 · obtain ⟨id,b0,h1,h2,h3,rfl⟩:=hget i b hb
   obtain ⟨e1,e2⟩:=hφ i id h1
   simp only at hc ⊢
   rw [e1]
   exact hr.nf id b0 (by rw [hH]; exact h2) h3 (by rw [← e2]; exact hc)
 · -- a block that was handed over
   rw [hE0] at h
   simp only at h
   have hlt:=(List.getElem?_eq_some_iff.1 h).1
   obtain ⟨f1,f2⟩:=hfirst id hlt
   obtain ⟨b1,q1,q2,q3⟩:=hs.ref id blk (by rw [hE0]; exact h)
   have hg : b1.gen = 0:=by rw [hH] at q1; rw [q1] at f2; simpa using f2
   have hltB : id < B.length:=by rw [← hlen]; exact (List.getElem?_eq_some_iff.1 f1).1
   obtain ⟨id',b2,k1,k2,k3,k4⟩:=hget id _ (List.getElem?_eq_getElem hltB)
   rw [f1] at k1; cases k1
   rw [hH] at q1
   rw [q1] at k2; cases k2
   obtain ⟨e1,e2⟩:=hφ id id f1
   have hbg:=hB0 blk (List.mem_of_getElem? h)
   refine ⟨B[id],List.getElem?_eq_getElem hltB,by rw [hbg]; exact Nat.zero_le _,fun _ hk=>?_⟩
   obtain ⟨c1,c2,c3,c4,c5⟩:=q3 (by rw [hg,hbg]) hk
   rw [k4]
   exact ⟨c1,c2,c3,e1.trans c4,e2.trans c5⟩
 · obtain ⟨id,b0,h1,h2,h3,rfl⟩:=hget i b hb
   obtain ⟨e1,e2⟩:=hφ i id h1
   simp only at hc ⊢
   rw [e1]
   rcases hs.live id b0 (by rw [hH]; exact h2) hk (by rw [← e2]; exact hc) with ⟨id0,blk,hb0,k1,k2,k3,k4⟩ | hge
   · left
     have hb0':=hb0
     rw [hE0] at hb0'
     simp only at hb0'
     have hlt:=(List.getElem?_eq_some_iff.1 hb0').1
     obtain ⟨f1,f2⟩:=hfirst id0 hlt
     have hbg:=hB0 blk (List.mem_of_getElem? hb0')
     rcases k4 with rfl | ⟨b1,g1,g2⟩
     · have hi':=(List.getElem?_eq_some_iff.1 h1).1
       have : i = id0:=(List.getElem?_inj hi' hnd).1 (by rw [h1,f1])
       subst this
       exact ⟨i,blk,hb0,k1,k2,k3, .inl rfl⟩
     · rw [hH] at g1
       rw [g1] at f2
       simp only [Option.map_some,Option.some.injEq] at f2
       omega
   · exact .inr hge
def frqT (fz : Bool) (x : AV) : AP AV :=
 match fz,x with
 | false,x => .ret x
 | true, .tup cs=>frqVs cs fun cs' => .ret (.tup cs')
 | true,x=>frqV x fun x' => .ret x'
theorem frqT_run {E : Env} {H : NL ABlk} (hH : E.H = lk H) (hr : HR E) {fz : Bool} {x : AV} {v : Value} (hx : Rep E x v) {out : Out AV} (ho : (frqT fz x).run H = some out) :
   ∃ E',E'.w = E.w ∧ E'.H = lk out.H ∧ HR E' ∧ Step E E' ∧ Rep E' out.val v:=by
 have : SndW E H (frqT fz x) (PureAct v):=by
   have fin : ∀ (E1 : Env) (H1 : NL ABlk) (x' : AV),E1.H = lk H1 → HR E1 → Rep E1 x' v → SndW E1 H1 (.ret x') (PureAct v):=fun E1 H1 x' e2 e3 e5 out ho=>by
     simp only [AP.run,Option.some.injEq] at ho; subst ho
     exact ⟨trivial,E1,rfl,e2,e3,Step.refl _,e5⟩
   unfold frqT
   split
   · exact fin E H _ hH hr hx
   · simp only [Rep] at hx
     obtain ⟨cs,rfl,hc⟩:=hx
     refine frqVs_w hH hr hc fun E1 H1 cs' e1 e2 e3 e4 e5=>fin E1 H1 _ e2 e3 ?_
     simp only [Rep]
     exact ⟨cs,rfl,e5⟩
   · exact frqV_w hH hr hx fun E1 H1 x' e1 e2 e3 e4 e5=>fin E1 H1 _ e2 e3 e5
 obtain ⟨_,E',h1,h2,h3,h4,h5⟩:=this out ho
 exact ⟨E',h1,h2,h3,h4,h5⟩
def RetB (P : Program) (fn : Func) (k : Nat) (r : AV) (B : List ABlk) (σ : AS) : Prop :=
 ∃ xs,resVs P σ fn.results.toList = some xs ∧ ∃ fz out,(frqT fz (pack xs)).run σ.heap = some out ∧ ∃ exp : List Nat,exp.Nodup ∧ (∀ i,i < k → exp[i]? = some i ∧ (lk out.H i).map (·.gen) = some 0) ∧
   exp.map (expB2 exp out.H) = B.map some ∧ r = out.val.ren (expF exp out.H)
theorem RetB.mk {P : Program} {fn : Func} {k : Nat} {r : AV} {B : List ABlk} {σ : AS} {rs : List ResultVar} {xs : List AV} (fz : Bool) (exp : List Nat) {v : AV} {H : NL ABlk} {rd wr : List Nat} {A : Prop} (h0 : fn.results.toList = rs) (h1 : resVs P σ rs = some xs)
   (h2 : (frqT fz (pack xs)).run σ.heap = some ⟨v,H,rd,wr,A⟩) (h3 : exp.Nodup) (h4 : ∀ i,i < k → exp[i]? = some i ∧ (lk H i).map (·.gen) = some 0) (h5 : exp.map (expB2 exp H) = B.map some) (h6 : v.ren (expF exp H) = r) : RetB P fn k r B σ :=
 ⟨xs,by rw [h0]; exact h1,fz,_,h2,exp,h3,h4,h5,h6.symm⟩
def init2 (fn : Func) (args : List AV) (B : List ABlk) : AS := { n := args.length + (fn.ntmps - args.length),tmps := num 0 args,heap := num 0 B }
open Classical in
noncomputable def mkS2 {α : Type} (enc : α → List AV × List ABlk) (res : α → AV × List ABlk) : SpecFn := fun args B =>
 if h : ∃ x,enc x = (args,B) then some (res h.choose) else none
theorem mkS2_eq {α : Type} {enc : α → List AV × List ABlk} {res : α → AV × List ABlk} (inj : ∀ x y,enc x = enc y → res x = res y) (x : α) : mkS2 enc res (enc x).1 (enc x).2 = some (res x) := by
 unfold mkS2
 have h : ∃ y,enc y = ((enc x).1,(enc x).2):=⟨x,rfl⟩
 rw [dif_pos h,inj _ _ h.choose_spec]
theorem FnC.walkB {P : Program} {α : Type} {enc : α → List AV × List ABlk} {res : α → AV × List ABlk} (f : FuncId) {fn : Func} (hf : P.funcs[f]? = some fn) (hb : fn.body = some (codeOf fn)) (hname : (fn.name == "runtime.NumGoroutine") = false)
   (hg : ∀ x, ∀ b ∈ (enc x).2,b.gen = 0) (h : ∀ x,W P (RetB P fn (enc x).2.length (res x).1 (res x).2) (codeOf fn) [] (init2 fn (enc x).1 (enc x).2)) : FnC P f (mkS2 enc res):=by
 refine ⟨⟨fn,hf,hname,by simp [hb]⟩,fun args B r B' hS E vs hH hr hx=>?_⟩
 unfold mkS2 at hS
 split at hS
 · rename_i hex
   simp only [Option.some.injEq] at hS
   have hw:=h hex.choose
   have hg':=hg hex.choose
   rw [hex.choose_spec,hS] at hw
   rw [hex.choose_spec] at hg'
   simp only at hw hg'
   have hsz : vs.size = args.length:=by have:=hx.length; simpa using this
   have hsr : SR (init2 fn args B) { tmps:=vs ++ Array.replicate (fn.ntmps - vs.size) undef,defers:=[] } E:=by
     refine ⟨by rw [hH]; funext i; simp [init2,lk_num],hr,rfl,by simp [init2,hsz],fun t x ht=>?_⟩
     simp only [init2,lk_num,Nat.zero_le,if_true,Nat.sub_zero] at ht
     obtain ⟨v,hv,hxv⟩:=hx.get ht
     refine ⟨v, ?_,hxv⟩
     have hlt : t < vs.size:=by rw [hsz]; exact (List.getElem?_eq_some_iff.1 ht).1
     rw [Array.getElem?_append_left hlt]
     simpa using hv
   refine calls_of_wp hf hb (wp_mono (hw.h.run hsr) fun e a' w' hp=>?_)
   obtain ⟨σ',E1,rfl,h1,h2,he,xs,hxs,fz,out,ho,exp,q1,q2,q3,rfl⟩:=hp
   obtain ⟨v,g1,g2⟩:=resVs_run h1 hxs
   obtain ⟨E2,k1,k2,k3,k4,k5⟩:=frqT_run h1.heap h1.hr g2 ho
   obtain ⟨E3,m1,m2,m3,m4,m5⟩:=export_envB hH hg' k2 k3 (h2.trans k4) q1 q2 q3
   have hfinal : bodyPost P fn (fun e w' => ∃ v E',e = .returned v ∧ E'.w = w' ∧ E'.H = (fun i=>B'[i]?) ∧ HR E' ∧ Step E E' ∧ Rep E' (out.val.ren (expF exp out.H)) v) .ret a' E1.w :=
     ⟨h1.defers,v,g1,v,E3,rfl,m1.trans k1,m2,m3,m4,ren_rep m5 _ _ k5⟩
   rcases he with rfl | rfl
   · exact hfinal
   · exact hfinal
 · cases hS
theorem FnC.existsB {P : Program} {α : Type} {enc : α → List AV × List ABlk} {Pp : α → AV × List ABlk → Prop} (f : FuncId) {fn : Func} (hf : P.funcs[f]? = some fn) (hb : fn.body = some (codeOf fn)) (hname : (fn.name == "runtime.NumGoroutine") = false)
   (hg : ∀ x, ∀ b ∈ (enc x).2,b.gen = 0) (inj : ∀ x y,enc x = enc y → x = y) (hne : ∀ x, ∃ r,Pp x r)
   (h : ∀ x,W P (fun σ => ∃ r,Pp x r ∧ RetB P fn (enc x).2.length r.1 r.2 σ) (codeOf fn) [] (init2 fn (enc x).1 (enc x).2)) : ∃ S,FnC P f S ∧ ∀ x, ∃ r,S (enc x).1 (enc x).2 = some r ∧ Pp x r:=by
 have key : ∀ x, ∃ r,Pp x r ∧ W P (RetB P fn (enc x).2.length r.1 r.2) (codeOf fn) [] (init2 fn (enc x).1 (enc x).2):=by
   intro x
   by_cases hs : ∃ a E,SR (init2 fn (enc x).1 (enc x).2) a E
   · obtain ⟨e, τ,⟨hen,r,hp,hr⟩,hx⟩:=(h x).h hs
     exact ⟨r,hp,⟨fun _=>⟨e, τ,⟨hen,hr⟩,hx⟩⟩⟩
   · obtain ⟨r,hr⟩:=hne x
     exact ⟨r,hr,⟨fun h=>absurd h hs⟩⟩
 exact ⟨mkS2 enc fun x=>(key x).choose,FnC.walkB f hf hb hname hg fun x=>(key x).choose_spec.2,fun x=>⟨_,mkS2_eq (fun x y h=>by rw [inj x y h]) x,(key x).choose_spec.1⟩⟩
theorem FnC.existsA {P : Program} {α : Type} {enc : α → List AV} {Pp : α → AV × List ABlk → Prop} (f : FuncId) {fn : Func} (hf : P.funcs[f]? = some fn) (hb : fn.body = some (codeOf fn)) (hname : (fn.name == "runtime.NumGoroutine") = false)
   (inj : ∀ x y,enc x = enc y → x = y) (hne : ∀ x, ∃ r,Pp x r)
   (h : ∀ x,W P (fun σ => ∃ r,Pp x r ∧ Ret P fn r.1 r.2 σ) (codeOf fn) [] (init fn (enc x))) : ∃ S,FnC P f S ∧ ∀ x, ∃ r,S (enc x) [] = some r ∧ Pp x r:=by
 have key : ∀ x, ∃ r,Pp x r ∧ W P (Ret P fn r.1 r.2) (codeOf fn) [] (init fn (enc x)):=by
   intro x
   by_cases hs : ∃ a E,SR (init fn (enc x)) a E
   · obtain ⟨e, τ,⟨hen,r,hp,hr⟩,hx⟩:=(h x).h hs
     exact ⟨r,hp,⟨fun _=>⟨e, τ,⟨hen,hr⟩,hx⟩⟩⟩
   · obtain ⟨r,hr⟩:=hne x
     exact ⟨r,hr,⟨fun h=>absurd h hs⟩⟩
 exact ⟨mkS enc fun x=>(key x).choose,FnC.walk f hf hb hname fun x=>(key x).choose_spec.2,fun x=>⟨_,mkS_eq (fun x y h=>by rw [inj x y h]) x,(key x).choose_spec.1⟩⟩
end
end Go.Abs
namespace Go.Abs
open Go
set_option linter.unusedSimpArgs false
set_option linter.unusedVariables false
section
def expG (exp gs : List Nat) (H : NL ABlk) (i g : Nat) : Option (Nat × Nat) :=
 match exp.idxOf? i with
 | some k=>match lk H i with
   | some b=>if b.gen = g then some (k,gs.getD k 0) else none
   | none=>none
 | none=>none
def expB3 (exp gs : List Nat) (H : NL ABlk) (i g : Nat) : Option ABlk :=
 match lk H i with
 | some b=>if b.kind = 0 then none else some (renB (expG exp gs H) g b)
 | none=>none
theorem export_envM {E0 E : Env} {B0 : List ABlk} (hE0 : E0.H = fun i => B0[i]?) (hB0 : ∀ b ∈ B0,b.gen = 0) {H : NL ABlk} (hH : E.H = lk H) (hr : HR E) (hs : Step E0 E) {exp gs : List Nat} (hnd : exp.Nodup) (hgl : gs.length = exp.length)
   (hfirst : ∀ i,i < B0.length → gs[i]? = some 0 ∧ exp[i]? = some i ∧ (lk H i).map (·.gen) = some 0 ∨ gs[i]? = some 1)
   (hold : ∀ i id,exp[i]? = some id → id < B0.length → i = id) {B : List ABlk} (hB : exp.zipWith (expB3 exp gs H) gs = B.map some) :
   ∃ E',E'.w = E.w ∧ E'.H = (fun i=>B[i]?) ∧ HR E' ∧ Step E0 E' ∧ RenOK (expG exp gs H) E E':=by
 have hlen : exp.length = B.length:=by have:=congrArg List.length hB; simpa [hgl] using this
 have hget : ∀ (i : Nat) (b : ABlk),B[i]? = some b → ∃ (id : Nat) (b0 : ABlk),exp[i]? = some id ∧ lk H id = some b0 ∧ b0.kind ≠ 0 ∧ b = renB (expG exp gs H) (gs.getD i 0) b0:=by
   intro i b hb
   have hi : i < exp.length:=by rw [hlen]; exact (List.getElem?_eq_some_iff.1 hb).1
   have hi' : i < gs.length:=by omega
   have h1 : (exp.zipWith (expB3 exp gs H) gs)[i]? = some (some b):=by rw [hB,List.getElem?_map,hb]; rfl
   rw [List.getElem?_zipWith,List.getElem?_eq_getElem hi,List.getElem?_eq_getElem hi'] at h1
   simp only [Option.some.injEq] at h1
   have hgd : gs.getD i 0 = gs[i]:=by simp [List.getD_eq_getElem?_getD,hi']
   refine ⟨exp[i], ?_⟩
   rw [hgd]
   unfold expB3 at h1
   split at h1
   · rename_i b0 hb0
     split at h1
     · cases h1
     · rename_i hc
       simp only [Option.some.injEq] at h1
       exact ⟨b0,List.getElem?_eq_getElem hi,hb0,hc,h1.symm⟩
   · cases h1
 let φ' : Nat → Nat:=fun i=>E.φ (exp.getD i 0)
 let cs' : Nat → Nat:=fun i=>E.cs (exp.getD i 0)
 have hφ : ∀ (i id : Nat),exp[i]? = some id → φ' i = E.φ id ∧ cs' i = E.cs id:=fun i id h=>by simp [φ',cs',List.getD_eq_getElem?_getD,h]
 have himm : ∀ b,E.imm b → (Env.mk E.w (fun i=>B[i]?) φ' cs' E.F).imm b:=by
   intro b hb
   refine ⟨hb.1,hb.2.1,fun i blk hbk hk hc he=>?_⟩
   obtain ⟨id,b0,h1,h2,h3,rfl⟩:=hget i blk hbk
   obtain ⟨e1,e2⟩:=hφ i id h1
   exact hb.2.2 id b0 (by rw [hH]; exact h2) hk (by simpa only [e2] using hc) (by simpa only [e1] using he)
 have hren : RenOK (expG exp gs H) E ⟨E.w,fun i=>B[i]?, φ',cs',E.F⟩:=by
   have key : ∀ i g i' g',expG exp gs H i g = some (i',g') → ∃ b0,lk H i = some b0 ∧ b0.gen = g ∧ g' = gs.getD i' 0 ∧ exp[i']? = some i:=by
     intro i g i' g' he
     unfold expG at he
     split at he
     · rename_i k hk
       split at he
       · rename_i b0 hb0
         split at he
         · rename_i hg
           simp only [Option.some.injEq,Prod.mk.injEq] at he
           obtain ⟨rfl,rfl⟩:=he
           refine ⟨b0,hb0,hg,rfl, ?_⟩
           rw [List.idxOf?_eq_some_iff] at hk
           obtain ⟨h1,h2,_⟩:=hk
           rw [List.getElem?_eq_getElem h1]
           simpa using h2
         · cases he
       · cases he
     · cases he
   refine ⟨rfl,himm,fun i g i' g' he blk hb hg=>?_,fun i g i' g' he=>?_⟩
   · obtain ⟨b0,h1,h2,rfl,h4⟩:=key i g i' g' he
     rw [hH] at hb
     rw [h1] at hb; cases hb
     obtain ⟨e1,e2⟩:=hφ i' i h4
     have hk : i' < B.length:=by rw [← hlen]; exact (List.getElem?_eq_some_iff.1 h4).1
     obtain ⟨id,b1,k1,k2,k3,k4⟩:=hget i' _ (List.getElem?_eq_getElem hk)
     rw [h4] at k1; cases k1
     rw [h1] at k2; cases k2
     exact ⟨B[i'],List.getElem?_eq_getElem hk,by rw [k4]; rfl,by rw [k4]; rfl,by rw [k4]; rfl,e1,e2⟩
   · obtain ⟨b0,h1,h2,_⟩:=key i g i' g' he
     exact ⟨b0,by rw [hH]; exact h1,h2⟩
 refine ⟨⟨E.w,fun i=>B[i]?, φ',cs',E.F⟩,rfl,rfl,⟨fun i b hb=>?_,fun i j bi bj hi hj ki kj ci cj hne=>?_,fun i b hb hk hc=>?_,hr.fb⟩,⟨hs.size,hs.old,hs.fo,fun id blk h=>?_,fun i b hb hk hc=>?_,hs.kept⟩,hren⟩
 · obtain ⟨id,b0,h1,h2,h3,rfl⟩:=hget i b hb
   obtain ⟨e1,e2⟩:=hφ i id h1
   exact BlkOK.ren hren e1 e2 (hr.blk id b0 (by rw [hH]; exact h2))
 · obtain ⟨id1,b1,p1,p2,p3,rfl⟩:=hget i bi hi
   obtain ⟨id2,b2,q1,q2,q3,rfl⟩:=hget j bj hj
   obtain ⟨e1,e2⟩:=hφ i id1 p1
   obtain ⟨e3,e4⟩:=hφ j id2 q1
   simp only at ci cj ⊢
   rw [e1,e3]
   refine hr.inj id1 id2 b1 b2 (by rw [hH]; exact p2) (by rw [hH]; exact q2) p3 q3 (by rw [← e2]; exact ci) (by rw [← e4]; exact cj) (fun e=>hne ?_)
   subst e
   have hi':=(List.getElem?_eq_some_iff.1 p1).1
   exact (List.getElem?_inj hi' hnd).1 (by rw [p1,q1])
 · obtain ⟨id,b0,h1,h2,h3,rfl⟩:=hget i b hb
   obtain ⟨e1,e2⟩:=hφ i id h1
   simp only at hc ⊢
   rw [e1]
   exact hr.nf id b0 (by rw [hH]; exact h2) h3 (by rw [← e2]; exact hc)
 · -- a block that was handed over
   rw [hE0] at h
   simp only at h
   have hlt:=(List.getElem?_eq_some_iff.1 h).1
   have hbg:=hB0 blk (List.mem_of_getElem? h)
   rcases hfirst id hlt with ⟨f0,f1,f2⟩ | f0
   · obtain ⟨b1,q1,q2,q3⟩:=hs.ref id blk (by rw [hE0]; exact h)
     have hg : b1.gen = 0:=by rw [hH] at q1; rw [q1] at f2; simpa using f2
     have hltB : id < B.length:=by rw [← hlen]; exact (List.getElem?_eq_some_iff.1 f1).1
     obtain ⟨id',b2,k1,k2,k3,k4⟩:=hget id _ (List.getElem?_eq_getElem hltB)
     rw [f1] at k1; cases k1
     rw [hH] at q1
     rw [q1] at k2; cases k2
     obtain ⟨e1,e2⟩:=hφ id id f1
     refine ⟨B[id],List.getElem?_eq_getElem hltB,by rw [hbg]; exact Nat.zero_le _,fun _ hk=>?_⟩
     obtain ⟨c1,c2,c3,c4,c5⟩:=q3 (by rw [hg,hbg]) hk
     rw [k4]
     exact ⟨c1,c2,c3,e1.trans c4,e2.trans c5⟩
   · have hltB : id < B.length:=by rw [← hlen, ← hgl]; exact (List.getElem?_eq_some_iff.1 f0).1
     obtain ⟨id',b2,k1,k2,k3,k4⟩:=hget id _ (List.getElem?_eq_getElem hltB)
     refine ⟨B[id],List.getElem?_eq_getElem hltB,by rw [hbg]; exact Nat.zero_le _,fun he _=>?_⟩
     rw [k4,hbg] at he
     simp only [renB,List.getD_eq_getElem?_getD,f0,Option.getD_some] at he
     cases he
 · obtain ⟨id,b0,h1,h2,h3,rfl⟩:=hget i b hb
   obtain ⟨e1,e2⟩:=hφ i id h1
   simp only at hc ⊢
   rw [e1]
   rcases hs.live id b0 (by rw [hH]; exact h2) hk (by rw [← e2]; exact hc) with ⟨id0,blk,hb0,k1,k2,k3,k4⟩ | hge
   · left
     have hb0':=hb0
     rw [hE0] at hb0'
     simp only at hb0'
     have hlt:=(List.getElem?_eq_some_iff.1 hb0').1
     have hbg:=hB0 blk (List.mem_of_getElem? hb0')
     refine ⟨id0,blk,hb0,k1,k2,k3, ?_⟩
     rcases k4 with rfl | ⟨b1,g1,g2⟩
     · exact .inl (hold i id0 h1 hlt).symm
     · rcases hfirst id0 hlt with ⟨f0,f1,f2⟩ | f0
       · rw [hH] at g1
         rw [g1] at f2
         simp only [Option.map_some,Option.some.injEq] at f2
         omega
       · right
         have hltB : id0 < B.length:=by rw [← hlen, ← hgl]; exact (List.getElem?_eq_some_iff.1 f0).1
         obtain ⟨id',b2,q1,q2,q3,q4⟩:=hget id0 _ (List.getElem?_eq_getElem hltB)
         refine ⟨B[id0],List.getElem?_eq_getElem hltB, ?_⟩
         rw [q4,hbg]
         simp only [renB,List.getD_eq_getElem?_getD,f0,Option.getD_some]
         decide
   · exact .inr hge
def RetM (P : Program) (fn : Func) (k : Nat) (r : AV) (B : List ABlk) (σ : AS) : Prop :=
 ∃ xs,resVs P σ fn.results.toList = some xs ∧ ∃ fz out,(frqT fz (pack xs)).run σ.heap = some out ∧ ∃ exp gs : List Nat,exp.Nodup ∧ gs.length = exp.length ∧
   (∀ i,i < k → gs[i]? = some 0 ∧ exp[i]? = some i ∧ (lk out.H i).map (·.gen) = some 0 ∨ gs[i]? = some 1) ∧ (∀ i id,exp[i]? = some id → id < k → i = id) ∧
   exp.zipWith (expB3 exp gs out.H) gs = B.map some ∧ r = out.val.ren (expG exp gs out.H)
theorem RetM.mk {P : Program} {fn : Func} {k : Nat} {r : AV} {B : List ABlk} {σ : AS} {rs : List ResultVar} {xs : List AV} (fz : Bool) (exp gs : List Nat) {v : AV} {H : NL ABlk} {rd wr : List Nat} {A : Prop} (h0 : fn.results.toList = rs) (h1 : resVs P σ rs = some xs)
   (h2 : (frqT fz (pack xs)).run σ.heap = some ⟨v,H,rd,wr,A⟩) (h3 : exp.Nodup) (h3' : gs.length = exp.length) (h4 : ∀ i,i < k → gs[i]? = some 0 ∧ exp[i]? = some i ∧ (lk H i).map (·.gen) = some 0 ∨ gs[i]? = some 1)
   (h4' : ∀ i id,exp[i]? = some id → id < k → i = id) (h5 : exp.zipWith (expB3 exp gs H) gs = B.map some) (h6 : v.ren (expG exp gs H) = r) : RetM P fn k r B σ :=
 ⟨xs,by rw [h0]; exact h1,fz,_,h2,exp,gs,h3,h3',h4,h4',h5,h6.symm⟩
def movedOK (k : Nat) (exp gs : List Nat) (H : NL ABlk) : Bool := (List.range k).all fun i => (gs[i]? == some 0 && exp[i]? == some i && (lk H i).map (·.gen) == some 0) || gs[i]? == some 1
def oldOK (k : Nat) : Nat → List Nat → Bool
 | _,[]=>true
 | i,id :: r=>(decide (k ≤ id) || id == i) && oldOK k (i + 1) r
theorem oldOK_get (k : Nat) : ∀ (l : List Nat) (n : Nat),oldOK k n l = true → ∀ i id,l[i]? = some id → id < k → n + i = id
 | [],_,_,i,id,h,_=>by simp at h
 | x :: r,n,ho,i,id,h,hk=>by
   simp only [oldOK,Bool.and_eq_true,Bool.or_eq_true,decide_eq_true_eq,beq_iff_eq] at ho
   cases i with
   | zero =>
     simp only [List.getElem?_cons_zero,Option.some.injEq] at h
     omega
   | succ i =>
     have:=oldOK_get k r (n + 1) ho.2 i id (by simpa using h) hk
     omega
def retM2 (P : Program) (fn : Func) (k : Nat) (fz : Bool) (exp gs : List Nat) (σ : AS) : Option (AV × List (Option ABlk)) :=
 match resVs P σ fn.results.toList with
 | some xs=>match (frqT fz (pack xs)).run σ.heap with
   | some out=>if decide exp.Nodup && gs.length == exp.length && movedOK k exp gs out.H && oldOK k 0 exp then some (out.val.ren (expG exp gs out.H),exp.zipWith (expB3 exp gs out.H) gs) else none
   | none=>none
 | none=>none
theorem retM2_ok {P : Program} {fn : Func} {k : Nat} {r : AV} {B : List ABlk} {σ : AS} (fz : Bool) (exp gs : List Nat) (h : retM2 P fn k fz exp gs σ = some (r,B.map some)) : RetM P fn k r B σ := by
 unfold retM2 at h
 split at h
 · rename_i xs hxs
   split at h
   · rename_i out ho
     split at h
     · rename_i hc
       simp only [Bool.and_eq_true,decide_eq_true_eq,beq_iff_eq] at hc
       obtain ⟨⟨⟨c1,c2⟩,c3⟩,c4⟩:=hc
       simp only [Option.some.injEq,Prod.mk.injEq] at h
       refine ⟨xs,hxs,fz,out,ho,exp,gs,c1,c2,fun i hi=>?_,fun i id he hid=>?_,h.2,h.1.symm⟩
       · have:=List.all_eq_true.1 c3 i (List.mem_range.2 hi)
         simpa [and_assoc] using this
       · have:=oldOK_get k exp 0 c4 i id he hid
         omega
     · cases h
   · cases h
 · cases h
end
end Go.Abs
namespace Go.Abs
open Go
section
def seqO {α : Type} : List (Option α) → Option (List α)
 | []=>some []
 | some x :: r=>match seqO r with
   | some l=>some (x :: l)
   | none=>none
 | none :: _=>none
theorem seqO_some {α : Type} : ∀ {l : List (Option α)} {B : List α},seqO l = some B → l = B.map some
 | [],B,h=>by simp only [seqO,Option.some.injEq] at h; subst h; rfl
 | some x :: r,B,h=>by
   simp only [seqO] at h
   split at h
   · rename_i l hl
     simp only [Option.some.injEq] at h
     subst h
     rw [seqO_some hl]
     rfl
   · cases h
 | none :: _,B,h=>by simp [seqO] at h
def reachE (H : NL ABlk) : Nat → List Nat → List Nat → List Nat
 | _,[],acc=>acc
 | 0,_,acc=>acc
 | n + 1,i :: r,acc=>if acc.contains i then reachE H n r acc else match lk H i with
   | some b=>if b.kind = 0 then reachE H n r acc else reachE H n (r ++ refsB b) (acc ++ [i])
   | none=>reachE H n r acc
def blkRefs (H : NL ABlk) (i : Nat) : List Nat := match lk H i with
 | some b=>refsB b
 | none=>[]
def nodupE : List Nat → Bool
 | []=>true
 | x :: r => !r.contains x && nodupE r
theorem nodupE_ok : ∀ {l : List Nat},nodupE l = true → l.Nodup
 | [],_=>List.nodup_nil
 | x :: r,h=>by
   simp only [nodupE,Bool.and_eq_true,Bool.not_eq_true',List.contains_eq_mem,decide_eq_false_iff_not] at h
   exact List.nodup_cons.2 ⟨h.1,nodupE_ok h.2⟩
def firstE (H : NL ABlk) (exp : List Nat) : Nat → Bool
 | 0=>true
 | k + 1=>(match exp[k]?,lk H k with
   | some i,some b=>i == k && b.gen == 0
   | _,_=>false) && firstE H exp k
theorem firstE_ok {H : NL ABlk} {exp : List Nat} : ∀ {k : Nat},firstE H exp k = true → ∀ i,i < k → exp[i]? = some i ∧ (lk H i).map (·.gen) = some 0
 | 0,_,i,hi=>by omega
 | k + 1,h,i,hi=>by
   simp only [firstE,Bool.and_eq_true] at h
   by_cases e : i = k
   · subst e
     have h1:=h.1
     split at h1
     · rename_i j b h2 h3
       simp only [Bool.and_eq_true,beq_iff_eq] at h1
       rw [h2,h3,h1.1]
       simp [h1.2]
     · cases h1
   · exact firstE_ok h.2 i (by omega)
def outE (H : NL ABlk) (k : Nat) (v : AV) (exp : List Nat) : Option (AV × List ABlk) :=
 if nodupE exp && firstE H exp k then match seqO (exp.map (expB2 exp H)) with
   | some B=>some (v.ren (expF exp H),B)
   | none=>none
 else none
def nzV (H : NL ABlk) (x : AV) : AV := match x with
 | .sl id g off len=>match lk H id with
   | some b=>if b.gen = g ∧ b.kind = 1 ∧ b.inl = true ∧ off + len ≤ b.rows.length then .list b.size ((b.rows.drop off).take len) else .sl id g off len
   | none => .sl id g off len
 | x=>x
theorem nzV_rep {E : Env} {H : NL ABlk} (hH : E.H = lk H) (hr : HR E) {x : AV} {v : Value} (hx : Rep E x v) : Rep E (nzV H x) v := by
 unfold nzV
 split
 · rename_i id g off len
   split
   · rename_i b hb
     split
     · rename_i hc
       obtain ⟨g1,g2,g3,g4⟩:=hc
       have hx':=hx
       simp only [Rep] at hx'
       obtain ⟨blk,oa,len',cap,hb',hle,rfl,hg⟩:=hx'
       rw [hH,hb] at hb'; cases hb'
       obtain ⟨hk,rfl,h1,h2,h3⟩:=hg g1
       exact RepI.rep _ _ (slice_inl hr (by rw [hH]; exact hb) g2 g3 g4 h1 h2 h3)
     · exact hx
   · exact hx
 · exact hx
theorem nzL_rep {E : Env} {H : NL ABlk} (hH : E.H = lk H) (hr : HR E) : ∀ {xs : List AV} {vs : List Value},RepL E xs vs → RepL E (xs.map (nzV H)) vs
 | [],_,h=>h
 | x :: r,vs,h=>by
   simp only [RepL,List.map_cons] at h ⊢
   obtain ⟨v,vs',hv,h1,h2⟩:=h
   exact ⟨v,vs',hv,nzV_rep hH hr h1,nzL_rep hH hr h2⟩
def nzA (H : NL ABlk) (x : AV) : AV := match x with
 | .agg cs => .agg (cs.map (nzV H))
 | x=>nzV H x
theorem nzA_rep {E : Env} {H : NL ABlk} (hH : E.H = lk H) (hr : HR E) {x : AV} {v : Value} (hx : Rep E x v) : Rep E (nzA H x) v := by
 unfold nzA
 split
 · simp only [Rep] at hx ⊢
   obtain ⟨cs,hv,h1⟩:=hx
   exact ⟨cs,hv,nzL_rep hH hr h1⟩
 · exact nzV_rep hH hr hx
theorem nzAL_rep {E : Env} {H : NL ABlk} (hH : E.H = lk H) (hr : HR E) : ∀ {xs : List AV} {vs : List Value},RepL E xs vs → RepL E (xs.map (nzA H)) vs
 | [],_,h=>h
 | x :: r,vs,h=>by
   simp only [RepL,List.map_cons] at h ⊢
   obtain ⟨v,vs',hv,h1,h2⟩:=h
   exact ⟨v,vs',hv,nzA_rep hH hr h1,nzAL_rep hH hr h2⟩
def nzT (H : NL ABlk) (x : AV) : AV := match x with
 | .tup cs => .tup (cs.map (nzA H))
 | x=>nzA H x
theorem nzT_rep {E : Env} {H : NL ABlk} (hH : E.H = lk H) (hr : HR E) {x : AV} {v : Value} (hx : Rep E x v) : Rep E (nzT H x) v := by
 unfold nzT
 split
 · simp only [Rep] at hx ⊢
   obtain ⟨cs,hv,h1⟩:=hx
   exact ⟨cs,hv,nzAL_rep hH hr h1⟩
 · exact nzA_rep hH hr hx
def retE2 (P : Program) (fn : Func) (k : Nat) (fz : Bool) (σ : AS) : Option (AV × List ABlk) :=
 match resVs P σ fn.results.toList with
 | some xs=>match (frqT fz (pack xs)).run σ.heap with
   | some out=>outE out.H k out.val (reachE out.H 200 (((List.range k).flatMap (blkRefs out.H)) ++ out.val.refs) (List.range k))
   | none=>none
 | none=>none
theorem retE2_ok {P : Program} {fn : Func} {k : Nat} (fz : Bool) {σ : AS} {r : AV} {B : List ABlk} (h : retE2 P fn k fz σ = some (r,B)) : RetB P fn k r B σ := by
 unfold retE2 at h
 split at h
 · rename_i xs hx
   split at h
   · rename_i out ho
     generalize reachE out.H 200 (((List.range k).flatMap (blkRefs out.H)) ++ out.val.refs) (List.range k) = exp at h
     unfold outE at h
     split at h
     · rename_i hc
       simp only [Bool.and_eq_true] at hc
       split at h
       · rename_i B' hB
         simp only [Option.some.injEq,Prod.mk.injEq] at h
         obtain ⟨rfl,rfl⟩:=h
         exact ⟨xs,hx,fz,out,ho,exp,nodupE_ok hc.1,firstE_ok hc.2,seqO_some hB,rfl⟩
       · cases h
     · cases h
   · cases h
 · cases h
end
end Go.Abs
