/- Calls by what the callee is known to do. Conditions: none. -/
import Derived.Test.YtphclapfniepoaaAb4
namespace Go.Abs
open Go
section
abbrev SpecFn := List AV → List ABlk → Option (AV × List ABlk)
structure FnC (P : Program) (f : FuncId) (S : SpecFn) : Prop where
 fn : ∃ fn, P.funcs[f]? = some fn ∧ (fn.name == "runtime.NumGoroutine") = false ∧ fn.body.isNone = false
 calls : ∀ (args : List AV) (B : List ABlk) (r : AV) (B' : List ABlk),S args B = some (r,B') → ∀ (E : Env) (vs : Array Value),E.H = (fun i=>B[i]?) → HR E → RepL E args vs.toList →
   Calls P f vs E.w fun e w' => ∃ v E',e = .returned v ∧ E'.w = w' ∧ E'.H = (fun i=>B'[i]?) ∧ HR E' ∧ Step E E' ∧ Rep E' r v
structure ActW where
 f : World → (Value → World → Prop) → Prop
 mono : ∀ w K K',(∀ v w',K v w' → K' v w') → f w K → f w K'
def SndW (E : Env) (H : NL ABlk) (p : AP AV) (A : ActW) : Prop :=
 ∀ out,p.run H = some out → A.f E.w fun v w'=>out.as ∧ ∃ E',E'.w = w' ∧ E'.H = lk out.H ∧ HR E' ∧ Step E E' ∧ Rep E' out.val v
theorem SndW.fail {E : Env} {H : NL ABlk} {A : ActW} : SndW E H .fail A := fun _ h => by simp [AP.run] at h
theorem SndW.get {E : Env} {H : NL ABlk} {A : ActW} {id : Nat} {k : ABlk → AP AV} {b : ABlk} (hb : lk H id = some b) (h : SndW E H (k b) A) : SndW E H (.get id k) A :=
 fun out h'=>by
   simp only [AP.run,hb] at h'
   split at h'
   · rename_i o ho
     simp only [Option.some.injEq] at h'
     subst h'
     exact h o ho
   · cases h'
theorem SndW.put_then {E E1 : Env} {H : NL ABlk} {A : ActW} {id : Nat} {b : ABlk} {p : AP AV} (hw : E1.w = E.w) (hs : Step E E1) (h : SndW E1 (st H id b) p A) : SndW E H (.put id b p) A := fun out ho => by
 simp only [AP.run] at ho
 split at ho
 · rename_i o hr
   simp only [Option.some.injEq] at ho
   subst ho
   have:=h o hr
   rw [hw] at this
   exact A.mono _ _ _ (fun v w' ⟨h1,E',h2,h3,h4,h5,h6⟩=>⟨h1,E',h2,h3,h4,hs.trans h5,h6⟩) this
 · cases ho
theorem frz1_w {E : Env} {H : NL ABlk} (hH : E.H = lk H) (hr : HR E) {x : AV} {v : Value} (hx : Rep E x v) {k : AV → AP AV} {A : ActW}
   (h : ∀ E1 H1 x',E1.w = E.w → E1.H = lk H1 → HR E1 → Step E E1 → RepI E1.w E1.imm x' v → SndW E1 H1 (k x') A) : SndW E H (frz1 x k) A:=by
 unfold frz1
 split
 · rename_i id g off len
   simp only [Rep] at hx
   obtain ⟨blk,oa,len',cap,hb,hle,rfl,hg⟩:=hx
   refine SndW.get (by rw [← hH]; exact hb) ?_
   split
   · rename_i hc
     obtain ⟨g1,g2,g3⟩:=hc
     obtain ⟨hk,rfl,h1,h2,h3⟩:=hg g1
     split
     · rename_i hk2
       obtain ⟨q1,q2⟩:=hr.freeze hb hk2
       refine SndW.put_then (E1:=⟨E.w,upd E.H id (some { blk with kind:=1 }),E.φ,E.cs,E.F⟩) rfl q2 (h ⟨E.w,upd E.H id (some { blk with kind:=1 }),E.φ,E.cs,E.F⟩ _ _ rfl (by rw [lk_st_upd,hH]) q1 q2 ?_)
       exact slice_inl (blk:={ blk with kind:=1 }) q1 (by simp [upd_same]) rfl g2 g3 h1 h2 h3
     · split
       · rename_i hk1
         exact h _ _ _ rfl hH hr (Step.refl E) (slice_inl hr hb hk1 g2 g3 h1 h2 h3)
       · exact SndW.fail
   · exact SndW.fail
 · split
   · rename_i hi
     exact h E H x rfl hH hr (Step.refl E) (isInl_rep hx hi)
   · exact SndW.fail
theorem frzL_w {A : ActW} : ∀ {xs : List AV} {E : Env} {H : NL ABlk} (_ : E.H = lk H) (_ : HR E) {vs : List Value} (_ : RepL E xs vs) {k : List AV → AP AV}
   (_ : ∀ E1 H1 xs',E1.w = E.w → E1.H = lk H1 → HR E1 → Step E E1 → RepIL E1.w E1.imm xs' vs → SndW E1 H1 (k xs') A),SndW E H (frzL xs k) A
 | [],E,H,hH,hr,vs,hx,k,h=>h E H [] rfl hH hr (Step.refl E) (by simpa only [RepL,RepIL] using hx)
 | x :: r,E,H,hH,hr,vs,hx,k,h=>by
   simp only [RepL] at hx
   obtain ⟨v,vs',rfl,h1,h2⟩:=hx
   refine frz1_w hH hr h1 fun E1 H1 x' e1 e2 e3 e4 e5=>?_
   refine frzL_w e2 e3 (RepL.mono e4 _ _ h2) fun E2 H2 r' f1 f2 f3 f4 f5=>?_
   refine h E2 H2 (x' :: r') (f1.trans e1) f2 f3 (e4.trans f4) ?_
   simp only [RepIL]
   exact ⟨v,vs',rfl,RepI.mono f4.inl _ _ e5,f5⟩
theorem frzV_w {E : Env} {H : NL ABlk} (hH : E.H = lk H) (hr : HR E) {x : AV} {v : Value} (hx : Rep E x v) {k : AV → AP AV} {A : ActW}
   (h : ∀ E1 H1 x',E1.w = E.w → E1.H = lk H1 → HR E1 → Step E E1 → RepI E1.w E1.imm x' v → SndW E1 H1 (k x') A) : SndW E H (frzV x k) A:=by
 unfold frzV
 split
 · simp only [Rep] at hx
   obtain ⟨cs,rfl,hc⟩:=hx
   refine frzL_w hH hr hc fun E1 H1 xs' e1 e2 e3 e4 e5=>h E1 H1 _ e1 e2 e3 e4 ?_
   simp only [RepI]; exact ⟨cs,rfl,e5⟩
 · simp only [Rep] at hx
   obtain ⟨cs,rfl,hc⟩:=hx
   refine frzL_w hH hr hc fun E1 H1 xs' e1 e2 e3 e4 e5=>h E1 H1 _ e1 e2 e3 e4 ?_
   simp only [RepI]; exact ⟨cs,rfl,e5⟩
 · simp only [Rep] at hx
   obtain ⟨fs,cs,rfl,h1,h2⟩:=hx
   refine frzL_w hH hr h1 fun E1 H1 xs' e1 e2 e3 e4 e5=>?_
   refine frzL_w e2 e3 (RepL.mono e4 _ _ h2) fun E2 H2 ys' f1 f2 f3 f4 f5=>h E2 H2 _ (f1.trans e1) f2 f3 (e4.trans f4) ?_
   simp only [RepI]; exact ⟨fs,cs,rfl,RepIL.mono f4.inl _ _ e5,f5⟩
 · exact frz1_w hH hr hx h
theorem frzVs_w {A : ActW} : ∀ {xs : List AV} {E : Env} {H : NL ABlk} (_ : E.H = lk H) (_ : HR E) {vs : List Value} (_ : RepL E xs vs) {k : List AV → AP AV}
   (_ : ∀ E1 H1 xs',E1.w = E.w → E1.H = lk H1 → HR E1 → Step E E1 → RepIL E1.w E1.imm xs' vs → SndW E1 H1 (k xs') A),SndW E H (frzVs xs k) A
 | [],E,H,hH,hr,vs,hx,k,h=>h E H [] rfl hH hr (Step.refl E) (by simpa only [RepL,RepIL] using hx)
 | x :: r,E,H,hH,hr,vs,hx,k,h=>by
   simp only [RepL] at hx
   obtain ⟨v,vs',rfl,h1,h2⟩:=hx
   refine frzV_w hH hr h1 fun E1 H1 x' e1 e2 e3 e4 e5=>?_
   refine frzVs_w e2 e3 (RepL.mono e4 _ _ h2) fun E2 H2 r' f1 f2 f3 f4 f5=>?_
   refine h E2 H2 (x' :: r') (f1.trans e1) f2 f3 (e4.trans f4) ?_
   simp only [RepIL]
   exact ⟨v,vs',rfl,RepI.mono f4.inl _ _ e5,f5⟩
def brw1 (x : AV) (k : AV → AP AV) : AP AV :=
 match x with
 | .sl id g off len => .get id fun b =>
   if b.gen = g ∧ b.inl = true ∧ off + len ≤ b.rows.length ∧ (b.kind = 1 ∨ b.kind = 2) then k (.list b.size ((b.rows.drop off).take len)) else .fail
 | x=>if x.isInl then k x else .fail
def brwL : List AV → (List AV → AP AV) → AP AV
 | [],k=>k []
 | x :: r,k=>brw1 x fun x'=>brwL r fun r'=>k (x' :: r')
def brwV (x : AV) (k : AV → AP AV) : AP AV :=
 match x with
 | .agg cs=>brwL cs fun cs'=>k (.agg cs')
 | .tup cs=>brwL cs fun cs'=>k (.tup cs')
 | .fn f a b=>brwL a fun a'=>brwL b fun b'=>k (.fn f a' b')
 | x=>brw1 x k
def brwVs : List AV → (List AV → AP AV) → AP AV
 | [],k=>k []
 | x :: r,k=>brwV x fun x'=>brwVs r fun r'=>k (x' :: r')
def Env.all (E : Env) (b : Nat) : Prop := b < E.w.heap.size
theorem Env.imm_all (E : Env) : ∀ b,E.imm b → E.all b ∧ E.w.heap[b]? = E.w.heap[b]? := fun _ h => ⟨h.1,rfl⟩
theorem brw1_w {E : Env} {H : NL ABlk} (hH : E.H = lk H) (hr : HR E) {x : AV} {v : Value} (hx : Rep E x v) {k : AV → AP AV} {A : ActW}
   (h : ∀ x',RepI E.w E.all x' v → SndW E H (k x') A) : SndW E H (brw1 x k) A:=by
 unfold brw1
 split
 · rename_i id g off len
   simp only [Rep] at hx
   obtain ⟨blk,oa,len',cap,hb,hle,rfl,hg⟩:=hx
   refine SndW.get (by rw [← hH]; exact hb) ?_
   split
   · rename_i hc
     obtain ⟨g1,g2,g3,hk⟩:=hc
     obtain ⟨_,rfl,h1,h2,h3⟩:=hg g1
     refine h _ ?_
     have hlen : ((blk.rows.drop off).take len').length = len':=by rw [List.length_take,List.length_drop]; omega
     simp only [RepI]
     cases oa with
     | none =>
       have hc : cap = 0:=by
         rcases Nat.eq_zero_or_pos cap with h | h
         · exact h
         · cases (h3 h).1
       subst hc
       have : len' = 0:=by omega
       subst this
       exact .inl ⟨rfl,List.eq_nil_of_length_eq_zero hlen⟩
     | some a =>
       refine .inr ⟨a,cap,by rw [hlen],by rw [hlen]; exact h1,h2,fun hn=>?_, ?_⟩
       · have hp : 0 < len':=by rw [← hlen]; exact List.length_pos_iff.2 hn
         obtain ⟨ea,hcs⟩:=h3 (by omega)
         cases ea
         obtain ⟨C,c1,c2,c3,c4,c5,c6⟩:=hr.cells hb hk
         have hcp : 0 < E.cs id:=by have : 0 < (off + cap) * blk.size:=Nat.mul_pos (by omega) c3; omega
         exact ⟨rfl,(hr.nf id blk hb (by omega) hcp).1⟩
       · rcases Nat.eq_zero_or_pos len' with hp | hp
         · have : (blk.rows.drop off).take len' = []:=List.eq_nil_of_length_eq_zero (by rw [hlen]; exact hp)
           rw [this]; simp only [RepRows]
         · obtain ⟨ea,hcs⟩:=h3 (by omega)
           cases ea
           obtain ⟨C,c1,c2,c3,c4,c5,c6⟩:=hr.cells hb hk
           have hcp : 0 < E.cs id:=by have : 0 < (off + cap) * blk.size:=Nat.mul_pos (by omega) c3; omega
           refine block_rows (c1 hcp) c5 fun r row j x q1 q2=>?_
           obtain ⟨u,d1,d2,d3⟩:=c6 r row j x q1 q2
           rw [g2] at d3
           exact ⟨u,d1,d2,RepI.mono E.imm_all _ _ d3⟩
   · exact SndW.fail
 · split
   · rename_i hi
     exact h x (RepI.mono E.imm_all _ _ (isInl_rep hx hi))
   · exact SndW.fail
theorem brwL_w {E : Env} {H : NL ABlk} {A : ActW} (hH : E.H = lk H) (hr : HR E) : ∀ {xs : List AV} {vs : List Value} (_ : RepL E xs vs) {k : List AV → AP AV}
   (_ : ∀ xs',RepIL E.w E.all xs' vs → SndW E H (k xs') A),SndW E H (brwL xs k) A
 | [],vs,hx,k,h=>h [] (by simpa only [RepL,RepIL] using hx)
 | x :: r,vs,hx,k,h=>by
   simp only [RepL] at hx
   obtain ⟨v,vs',rfl,h1,h2⟩:=hx
   refine brw1_w hH hr h1 fun x' e=>brwL_w hH hr h2 fun r' f=>h (x' :: r') ?_
   simp only [RepIL]
   exact ⟨v,vs',rfl,e,f⟩
theorem brwV_w {E : Env} {H : NL ABlk} (hH : E.H = lk H) (hr : HR E) {x : AV} {v : Value} (hx : Rep E x v) {k : AV → AP AV} {A : ActW}
   (h : ∀ x',RepI E.w E.all x' v → SndW E H (k x') A) : SndW E H (brwV x k) A:=by
 unfold brwV
 split
 · simp only [Rep] at hx
   obtain ⟨cs,rfl,hc⟩:=hx
   refine brwL_w hH hr hc fun xs' e=>h _ ?_
   simp only [RepI]; exact ⟨cs,rfl,e⟩
 · simp only [Rep] at hx
   obtain ⟨cs,rfl,hc⟩:=hx
   refine brwL_w hH hr hc fun xs' e=>h _ ?_
   simp only [RepI]; exact ⟨cs,rfl,e⟩
 · simp only [Rep] at hx
   obtain ⟨fs,cs,rfl,h1,h2⟩:=hx
   refine brwL_w hH hr h1 fun xs' e=>brwL_w hH hr h2 fun ys' f=>h _ ?_
   simp only [RepI]; exact ⟨fs,cs,rfl,e,f⟩
 · exact brw1_w hH hr hx h
theorem brwVs_w {E : Env} {H : NL ABlk} {A : ActW} (hH : E.H = lk H) (hr : HR E) : ∀ {xs : List AV} {vs : List Value} (_ : RepL E xs vs) {k : List AV → AP AV}
   (_ : ∀ xs',RepIL E.w E.all xs' vs → SndW E H (k xs') A),SndW E H (brwVs xs k) A
 | [],vs,hx,k,h=>h [] (by simpa only [RepL,RepIL] using hx)
 | x :: r,vs,hx,k,h=>by
   simp only [RepL] at hx
   obtain ⟨v,vs',rfl,h1,h2⟩:=hx
   refine brwV_w hH hr h1 fun x' e=>brwVs_w hH hr h2 fun r' f=>h (x' :: r') ?_
   simp only [RepIL]
   exact ⟨v,vs',rfl,e,f⟩
def AV.flat1 : AV → Bool
 | .bool _ | .int _ _ | .str _ | .nilp | .nils | .nilf | .nilm=>true
 | _=>false
def AV.flat2 : AV → Bool
 | .agg cs=>cs.all AV.flat1
 | x=>x.flat1
def AV.flat : AV → Bool
 | .tup vs=>vs.all AV.flat2
 | x=>x.flat2
theorem flat1_rep {E E' : Env} {x : AV} {v : Value} (h : x.flat1 = true) (hx : Rep E x v) : Rep E' x v := by
 cases x <;> simp [AV.flat1] at h <;> exact hx
theorem flatL_rep {E E' : Env} {p : AV → Bool} (hp : ∀ {x : AV} {v : Value},p x = true → Rep E x v → Rep E' x v) : ∀ {xs : List AV} {vs : List Value},xs.all p = true → RepL E xs vs → RepL E' xs vs
 | [],_,_,h=>h
 | x :: r,vs,ha,h=>by
   simp only [List.all_cons,Bool.and_eq_true] at ha
   simp only [RepL] at h ⊢
   obtain ⟨v,vs',rfl,h1,h2⟩:=h
   exact ⟨v,vs',rfl,hp ha.1 h1,flatL_rep hp ha.2 h2⟩
theorem flat2_rep {E E' : Env} {x : AV} {v : Value} (h : x.flat2 = true) (hx : Rep E x v) : Rep E' x v := by
 unfold AV.flat2 at h
 split at h
 · simp only [Rep] at hx ⊢
   obtain ⟨cs,rfl,hc⟩:=hx
   exact ⟨cs,rfl,flatL_rep flat1_rep h hc⟩
 · exact flat1_rep h hx
theorem flat_rep {E E' : Env} {x : AV} {v : Value} (h : x.flat = true) (hx : Rep E x v) : Rep E' x v := by
 unfold AV.flat at h
 split at h
 · simp only [Rep] at hx ⊢
   obtain ⟨cs,rfl,hc⟩:=hx
   exact ⟨cs,rfl,flatL_rep flat2_rep h hc⟩
 · exact flat2_rep h hx
mutual
def AV.ren (f : Nat → Nat → Option (Nat × Nat)) : AV → AV
 | .ptr i g r o=>match f i g with
   | some (i',g') => .ptr i' g' r o
   | none => .any
 | .sl i g o l=>match f i g with
   | some (i',g') => .sl i' g' o l
   | none => .any
 | .amap i g=>match f i g with
   | some (i',g') => .amap i' g'
   | none => .any
 | .psl i g r o l=>match f i g with
   | some (i',g') => .psl i' g' r o l
   | none => .any
 | .slc i g o l c=>match f i g with
   | some (i',g') => .slc i' g' o l c
   | none => .any
 | .agg cs => .agg (renL f cs)
 | .tup cs => .tup (renL f cs)
 | .fn fn a b => .fn fn (renL f a) (renL f b)
 | .any => .any
 | .bool b => .bool b
 | .int k n => .int k n
 | .str s => .str s
 | .nilp => .nilp
 | .cptr cs => .cptr cs
 | .nils => .nils
 | .list s rows => .list s rows
 | .nilf => .nilf
 | .nilm => .nilm
def renL (f : Nat → Nat → Option (Nat × Nat)) : List AV → List AV
 | []=>[]
 | x :: r=>x.ren f :: renL f r
end
structure RenOK (f : Nat → Nat → Option (Nat × Nat)) (E E' : Env) : Prop where
 w : E'.w = E.w
 imm : ∀ b,E.imm b → E'.imm b
 blk : ∀ i g i' g',f i g = some (i',g') → ∀ blk,E.H i = some blk → blk.gen = g → ∃ blk',E'.H i' = some blk' ∧ blk'.gen = g' ∧ blk'.kind = blk.kind ∧ blk'.size = blk.size ∧ E'.φ i' = E.φ i ∧ E'.cs i' = E.cs i
 cur : ∀ i g i' g',f i g = some (i',g') → ∃ blk,E.H i = some blk ∧ blk.gen = g
mutual
theorem ren_rep {f : Nat → Nat → Option (Nat × Nat)} {E E' : Env} (hf : RenOK f E E') : (x : AV) → (v : Value) → Rep E x v → Rep E' (x.ren f) v
 | .any,_,_=>trivial
 | .bool _,_,h=>h
 | .int _ _,_,h=>h
 | .str _,_,h=>h
 | .nilp,_,h=>h
 | .ptr i g r o,v,h=>by
   simp only [AV.ren]
   cases he : f i g with
   | none=>trivial
   | some p =>
     obtain ⟨i',g'⟩:=p
     obtain ⟨blk0,hb0,hg0⟩:=hf.cur i g i' g' he
     simp only [Rep] at h ⊢
     obtain ⟨blk,a,hb,hle,rfl,hg⟩:=h
     rw [hb0] at hb; cases hb
     obtain ⟨blk',q1,q2,q3,q4,q5,q6⟩:=hf.blk i g i' g' he blk0 hb0 hg0
     obtain ⟨k1,rfl⟩:=hg hg0
     exact ⟨blk',_,q1,by omega,rfl,fun _=>⟨by omega,by rw [q5,q4]⟩⟩
 | .cptr cs,v,h=>RepI.mono (fun b hb=>⟨hf.imm b hb,by rw [hf.w]⟩) (.cptr cs) v h
 | .nils,_,h=>h
 | .sl i g o l,v,h=>by
   simp only [AV.ren]
   cases he : f i g with
   | none=>trivial
   | some p =>
     obtain ⟨i',g'⟩:=p
     obtain ⟨blk0,hb0,hg0⟩:=hf.cur i g i' g' he
     simp only [Rep] at h ⊢
     obtain ⟨blk,oa,len',cap,hb,hle,rfl,hg⟩:=h
     rw [hb0] at hb; cases hb
     obtain ⟨blk',q1,q2,q3,q4,q5,q6⟩:=hf.blk i g i' g' he blk0 hb0 hg0
     obtain ⟨k1,k2,k3,k4,k5⟩:=hg hg0
     exact ⟨blk',oa,len',cap,q1,by omega,rfl,fun _=>⟨by omega,k2,k3,k4,by rw [q5,q4,q6]; exact k5⟩⟩
 | .list s rows,v,h=>RepI.mono (fun b hb=>⟨hf.imm b hb,by rw [hf.w]⟩) (.list s rows) v h
 | .nilf,_,h=>h
 | .fn fn a b,v,h=>by
   simp only [AV.ren,Rep] at h ⊢
   obtain ⟨fs,cs,hv,h1,h2⟩:=h
   exact ⟨fs,cs,hv,renL_rep hf _ _ h1,renL_rep hf _ _ h2⟩
 | .nilm,_,h=>h
 | .amap i g,v,h=>by
   simp only [AV.ren]
   cases he : f i g with
   | none=>trivial
   | some p =>
     obtain ⟨i',g'⟩:=p
     obtain ⟨blk0,hb0,hg0⟩:=hf.cur i g i' g' he
     simp only [Rep] at h ⊢
     obtain ⟨blk,r,hb,hle,rfl,hg⟩:=h
     rw [hb0] at hb; cases hb
     obtain ⟨blk',q1,q2,q3,q4,q5,q6⟩:=hf.blk i g i' g' he blk0 hb0 hg0
     obtain ⟨k1,rfl⟩:=hg hg0
     exact ⟨blk',_,q1,by omega,rfl,fun _=>⟨by omega,by rw [q5]⟩⟩
 | .slc i g o l c,v,h=>by
   simp only [AV.ren]
   cases he : f i g with
   | none=>trivial
   | some p =>
     obtain ⟨i',g'⟩:=p
     obtain ⟨blk0,hb0,hg0⟩:=hf.cur i g i' g' he
     simp only [Rep] at h ⊢
     obtain ⟨blk,oa,len',cap,hb,hle,rfl,hg,hst⟩:=h
     rw [hb0] at hb; cases hb
     obtain ⟨blk',q1,q2,q3,q4,q5,q6⟩:=hf.blk i g i' g' he blk0 hb0 hg0
     obtain ⟨k1,k2,k2',k3,k4,k5⟩:=hg hg0
     exact ⟨blk',oa,len',cap,q1,by omega,rfl,fun _=>⟨by omega,k2,k2',k3,k4,by rw [q5,q4,q6]; exact k5⟩,hst⟩
 | .psl i g r o l,v,h=>by
   simp only [AV.ren]
   cases he : f i g with
   | none=>trivial
   | some p =>
     obtain ⟨i',g'⟩:=p
     obtain ⟨blk0,hb0,hg0⟩:=hf.cur i g i' g' he
     simp only [Rep] at h ⊢
     obtain ⟨blk,a,cap,hb,hle,rfl,hg⟩:=h
     rw [hb0] at hb; cases hb
     obtain ⟨blk',q1,q2,q3,q4,q5,q6⟩:=hf.blk i g i' g' he blk0 hb0 hg0
     obtain ⟨k1,rfl⟩:=hg hg0
     exact ⟨blk',_,cap,q1,by omega,rfl,fun _=>⟨by omega,by rw [q5,q4]⟩⟩
 | .agg cs,v,h=>by
   simp only [AV.ren,Rep] at h ⊢
   obtain ⟨us,hv,h1⟩:=h
   exact ⟨us,hv,renL_rep hf _ _ h1⟩
 | .tup cs,v,h=>by
   simp only [AV.ren,Rep] at h ⊢
   obtain ⟨us,hv,h1⟩:=h
   exact ⟨us,hv,renL_rep hf _ _ h1⟩
theorem renL_rep {f : Nat → Nat → Option (Nat × Nat)} {E E' : Env} (hf : RenOK f E E') : (xs : List AV) → (vs : List Value) → RepL E xs vs → RepL E' (renL f xs) vs
 | [],_,h=>h
 | x :: r,vs,h=>by
   simp only [renL,RepL] at h ⊢
   obtain ⟨v,vs',hv,h1,h2⟩:=h
   exact ⟨v,vs',hv,ren_rep hf x v h1,renL_rep hf r vs' h2⟩
end
end
section
def genOf (H : NL ABlk) (id : Nat) : Nat := ((lk H id).getD {}).gen + 1
def instH (base : Nat) : Nat → List ABlk → NL ABlk → NL ABlk
 | _,[],H=>H
 | j,b :: r,H=>instH base (j + 1) r (st H (base + j) { b with gen:=genOf H (base + j) })
theorem genOf_st_other {H : NL ABlk} {i k : Nat} {b : ABlk} (h : i ≠ k) : genOf (st H i b) k = genOf H k := by
 simp [genOf,lk_st,h]
theorem lk_instH (base : Nat) : ∀ (news : List ABlk) (j : Nat) (H : NL ABlk) (id : Nat),lk (instH base j news H) id = if base + j ≤ id ∧ id < base + j + news.length then (news[id - (base + j)]?).map (fun b => { b with gen := genOf H id }) else lk H id
 | [],j,H,id=>by
   simp only [instH,List.length_nil,Nat.add_zero]
   rw [if_neg (by omega)]
 | b :: r,j,H,id=>by
   simp only [instH]
   rw [lk_instH base r (j + 1)]
   by_cases h1 : id = base + j
   · subst h1
     rw [if_neg (by omega),if_pos (by simp only [List.length_cons]; omega),lk_st,if_pos rfl]
     simp
   · by_cases h2 : base + (j + 1) ≤ id ∧ id < base + (j + 1) + r.length
     · rw [if_pos h2,if_pos (by simp only [List.length_cons]; omega)]
       rw [show id - (base + j) = (id - (base + (j + 1))) + 1 from by omega,List.getElem?_cons_succ,genOf_st_other (fun e=>h1 e.symm)]
     · rw [if_neg h2,if_neg (by simp only [List.length_cons]; omega),lk_st,if_neg (fun e=>h1 e.symm)]
def instA (base : Nat) : Nat → List ABlk → List Nat → (List Nat → AP AV) → AP AV
 | _,[],gs,k=>k gs.reverse
 | j,b :: r,gs,k => .get (base + j) fun old => .put (base + j) { b with gen:=old.gen + 1 } (instA base (j + 1) r ((old.gen + 1) :: gs) k)
def gensOf (base : Nat) : Nat → List ABlk → NL ABlk → List Nat
 | _,[],_=>[]
 | j,b :: r,H=>genOf H (base + j) :: gensOf base (j + 1) r (st H (base + j) { b with gen:=genOf H (base + j) })
theorem gensOf_get (base : Nat) : ∀ (news : List ABlk) (j : Nat) (H : NL ABlk) (t : Nat),t < news.length → (gensOf base j news H)[t]? = some (genOf H (base + j + t))
 | [],_,_,_,h=>by simp at h
 | b :: r,j,H,t,h=>by
   cases t with
   | zero=>simp [gensOf]
   | succ t =>
     simp only [gensOf,List.getElem?_cons_succ]
     rw [gensOf_get base r (j + 1) _ t (by simpa using h),genOf_st_other (by omega)]
     congr 2; omega
theorem instA_run (base : Nat) {k : List Nat → AP AV} : ∀ (news : List ABlk) (j : Nat) (gs : List Nat) (H : NL ABlk) (out : Out AV),(instA base j news gs k).run H = some out →
   ∃ o,(k (gs.reverse ++ gensOf base j news H)).run (instH base j news H) = some o ∧ out.val = o.val ∧ out.H = o.H ∧ out.as = o.as
 | [],j,gs,H,out,h=>⟨out,by simpa [gensOf,instH,instA] using h,rfl,rfl,rfl⟩
 | b :: r,j,gs,H,out,h=>by
   simp only [instA,AP.run] at h
   have key : ∀ old : ABlk,old = (lk H (base + j)).getD {} → ∀ o1,(instA base (j + 1) r ((old.gen + 1) :: gs) k).run (st H (base + j) { b with gen:=old.gen + 1 }) = some o1 →
       ∃ o,(k (gs.reverse ++ gensOf base j (b :: r) H)).run (instH base j (b :: r) H) = some o ∧ o1.val = o.val ∧ o1.H = o.H ∧ o1.as = o.as:=by
     intro old ho o1 h1
     obtain ⟨o,q1,q2,q3,q4⟩:=instA_run base r (j + 1) _ _ o1 h1
     refine ⟨o, ?_,q2,q3,q4⟩
     have hg : old.gen + 1 = genOf H (base + j):=by rw [ho]; rfl
     rw [hg] at q1
     simpa [gensOf,instH] using q1
   cases hb : lk H (base + j) with
   | none =>
     simp only [hb] at h
     split at h
     · rename_i o2 ho2
       split at ho2
       · rename_i o1 ho1
         obtain ⟨o,q1,q2,q3,q4⟩:=key {} (by simp [hb]) o1 ho1
         simp only [Option.some.injEq] at h ho2
         subst h; subst ho2
         exact ⟨o,q1,q2,q3,q4⟩
       · cases ho2
     · cases h
   | some old =>
     simp only [hb] at h
     split at h
     · rename_i o2 ho2
       split at ho2
       · rename_i o1 ho1
         obtain ⟨o,q1,q2,q3,q4⟩:=key old (by simp [hb]) o1 ho1
         simp only [Option.some.injEq] at h ho2
         subst h; subst ho2
         exact ⟨o,q1,q2,q3,q4⟩
       · cases ho2
     · cases h
def newF (base : Nat) (news : List ABlk) (gs : List Nat) (i g : Nat) : Option (Nat × Nat) :=
 match news[i]?,gs[i]? with
 | some b,some g'=>if b.gen = g then some (base + i,g') else none
 | _,_=>none
structure Spec where
 mode : Nat
 fn : SpecFn
def callA (specs : FuncId → Option Spec) (dst : Nat) (f : FuncId) (args : List AV) : AP AV :=
 match specs f with
 | none => .fail
 | some ⟨0,S⟩=>brwVs args fun args'=>match S args' [] with
   | some (r,[])=>if r.flat then .ret r else .fail
   | _ => .fail
 | some ⟨_,S⟩=>frzVs args fun args'=>match S args' [] with
   | some (r,news)=>if news.all (fun b=>b.inl && b.kind == 2) then
       instA (newId dst) 0 news [] fun gs => .ret (r.ren (newF (newId dst) news gs))
     else .fail
   | none => .fail
def CallAct (P : Program) (f : FuncId) (vs : Array Value) : ActW where
 f w K:=Calls P f vs w fun e w' => ∃ v,e = .returned v ∧ K v w'
 mono _ _ _ h hc:=hc.mono fun _ w' ⟨v,he,hk⟩=>⟨v,he,h v w' hk⟩
def env0 (w : World) (F : Nat → Prop) : Env := ⟨w,fun _ => none,fun _ => 0,fun _ => 0,F⟩
theorem HR.env0 {w : World} {F : Nat → Prop} (h : ∀ b,F b → b < w.heap.size) : HR (env0 w F) :=
 ⟨fun _ _ h=>by simp [Abs.env0] at h,fun _ _ _ _ h=>by simp [Abs.env0] at h,fun _ _ h=>by simp [Abs.env0] at h,h⟩
theorem after_call {E Ec : Env} (hr : HR E) {F0 : Nat → Prop} (hs : Step (env0 E.w F0) Ec) :
   HR ⟨Ec.w,E.H,E.φ,E.cs,E.F⟩ ∧ Step E ⟨Ec.w,E.H,E.φ,E.cs,E.F⟩:=by
 have hold : ∀ b,b < E.w.heap.size → Ec.w.heap[b]? = E.w.heap[b]?:=fun b hb=>hs.old b hb (fun id blk h=>by simp [env0] at h)
 have hsz : E.w.heap.size ≤ Ec.w.heap.size:=hs.size
 have hst : Step E ⟨Ec.w,E.H,E.φ,E.cs,E.F⟩ :=
   ⟨hsz,fun b hb _=>hold b hb,rfl,fun _ blk h=>⟨blk,h,Nat.le_refl _,fun _ _=>⟨.inl rfl,rfl,rfl,rfl,rfl⟩⟩,fun _ blk h hk hc => .inl ⟨_,blk,h,hk,hc,rfl, .inl rfl⟩,hs.kept⟩
 exact ⟨⟨fun id b hb=>BlkOK.mono hst rfl rfl (fun hz hc=>hold _ (hr.nf id b hb hz hc).1) (hr.blk id b hb),hr.inj,fun id b hb hz hc=>⟨Nat.lt_of_lt_of_le (hr.nf id b hb hz hc).1 hsz,(hr.nf id b hb hz hc).2⟩,fun b hf=>Nat.lt_of_lt_of_le (hr.fb b hf) hsz⟩,hst⟩
def keepOut (E : Env) (b : Nat) : Prop := E.F b ∨ (b < E.w.heap.size ∧ ∃ id blk,E.H id = some blk ∧ 2 ≤ blk.kind ∧ 0 < E.cs id ∧ E.φ id = b)
theorem keepOut_imm {E : Env} {b : Nat} (h : E.imm b) : (env0 E.w (keepOut E)).imm b := by
 refine ⟨h.1,fun hk=>?_,fun id blk hb=>by simp [env0] at hb⟩
 rcases hk with hk | ⟨_,id,blk,h1,h2,h3,h4⟩
 · exact h.2.1 hk
 · exact h.2.2 id blk h1 h2 h3 h4
theorem adopt {E Ec : Env} (hr : HR E) {H : NL ABlk} (hH : E.H = lk H) {news : List ABlk} (hn : Ec.H = fun i => news[i]?) (hc : HR Ec) (hs : Step (env0 E.w (keepOut E)) Ec) (hall : ∀ (i : Nat) (b : ABlk),news[i]? = some b → b.inl = true ∧ b.kind = 2) (base : Nat) :
   ∃ E',E'.w = Ec.w ∧ E'.H = lk (instH base 0 news H) ∧ HR E' ∧ Step E E' ∧ RenOK (newF base news (gensOf base 0 news H)) Ec E':=by
 have hold : ∀ b,b < E.w.heap.size → Ec.w.heap[b]? = E.w.heap[b]?:=fun b hb=>hs.old b hb (fun id blk h=>by simp [env0] at h)
 have hsz : E.w.heap.size ≤ Ec.w.heap.size:=hs.size
 let φ' : Nat → Nat:=fun id=>if base ≤ id ∧ id < base + news.length then Ec.φ (id - base) else E.φ id
 let cs' : Nat → Nat:=fun id=>if base ≤ id ∧ id < base + news.length then Ec.cs (id - base) else E.cs id
 have hlk : ∀ id,lk (instH base 0 news H) id = if base ≤ id ∧ id < base + news.length then (news[id - base]?).map (fun b=>{ b with gen:=genOf H id }) else lk H id:=by
   intro id; have:=lk_instH base news 0 H id; simpa using this
 -- a block of the new store
 have hnew : ∀ id b,lk (instH base 0 news H) id = some b → (base ≤ id ∧ id < base + news.length ∧ ∃ b0,news[id - base]? = some b0 ∧ b = { b0 with gen:=genOf H id }) ∨ (¬ (base ≤ id ∧ id < base + news.length) ∧ E.H id = some b):=by
   intro id b h
   rw [hlk] at h
   split at h
   · rename_i hin
     simp only [Option.map_eq_some_iff] at h
     obtain ⟨b0,h1,h2⟩:=h
     exact .inl ⟨hin.1,hin.2,b0,h1,h2.symm⟩
   · rename_i hin
     exact .inr ⟨hin,by rw [hH]; exact h⟩
 have hfresh : ∀ i b0,news[i]? = some b0 → 0 < Ec.cs i → E.w.heap.size ≤ Ec.φ i ∧ Ec.φ i < Ec.w.heap.size:=by
   intro i b0 h hcs
   have hk:=hall i b0 h
   refine ⟨?_,(hc.nf i b0 (by rw [hn]; exact h) (by omega) hcs).1⟩
   rcases hs.live i b0 (by rw [hn]; exact h) (by omega) hcs with ⟨_,blk,hb,_⟩ | hge
   · simp [env0] at hb
   · exact hge
 have hst : Step E ⟨Ec.w,lk (instH base 0 news H), φ',cs',E.F⟩:=by
   refine ⟨hsz,fun b hb _=>hold b hb,rfl,fun id blk hb=>?_,fun id b hb hk hcs=>?_,hs.kept⟩
   · by_cases hin : base ≤ id ∧ id < base + news.length
     · obtain ⟨b0,hb0⟩ : ∃ b0,news[id - base]? = some b0:=⟨_,List.getElem?_eq_getElem (by omega)⟩
       have hg : genOf H id = blk.gen + 1:=by simp [genOf, ← hH,hb]
       exact ⟨{ b0 with gen:=genOf H id },by simp only; rw [hlk,if_pos hin,hb0]; rfl,by simp only; omega,fun e=>by simp only at e; omega⟩
     · exact ⟨blk,by simp only; rw [hlk,if_neg hin, ← hH]; exact hb,Nat.le_refl _,fun _ _=>⟨.inl rfl,rfl,rfl,if_neg hin,if_neg hin⟩⟩
   · rcases hnew id b hb with ⟨h1,h2,b0,h3,h4⟩ | ⟨h1,h2⟩
     · right
       have hcs' : 0 < Ec.cs (id - base):=by simpa [cs',h1,h2] using hcs
       have:=(hfresh _ b0 h3 hcs').1
       simpa [φ',h1,h2] using this
     · left
       exact ⟨id,b,h2,hk,by simpa [cs',h1] using hcs,if_neg h1, .inl rfl⟩
 have himm : ∀ b,Ec.imm b → (Env.mk Ec.w (lk (instH base 0 news H)) φ' cs' E.F).imm b:=by
   intro b hb
   have hF : ¬ keepOut E b:=by have:=hb.2.1; rw [hs.fo] at this; exact this
   refine ⟨hb.1,fun hf=>hF (.inl hf),fun id blk hbk hk hcs he=>?_⟩
   rcases hnew id blk hbk with ⟨h1,h2,b0,h3,h4⟩ | ⟨h1,h2⟩
   · have hcs' : 0 < Ec.cs (id - base):=by simpa [cs',h1,h2] using hcs
     have he' : Ec.φ (id - base) = b:=by simpa [φ',h1,h2] using he
     exact hb.2.2 (id - base) b0 (by rw [hn]; exact h3) (by have:=hall _ b0 h3; omega) hcs' he'
   · have hcs' : 0 < E.cs id:=by simpa [cs',h1] using hcs
     have he' : E.φ id = b:=by simpa [φ',h1] using he
     refine hF (.inr ⟨?_,id,blk,h2,hk,hcs',he'⟩)
     have:=(hr.nf id blk h2 (by omega) hcs').1
     omega
 refine ⟨⟨Ec.w,lk (instH base 0 news H), φ',cs',E.F⟩,rfl,rfl,⟨fun id b hb=>?_,fun i j bi bj hi hj ki kj ci cj hne=>?_,fun id b hb hk hcs=>?_,fun b hf=>Nat.lt_of_lt_of_le (hr.fb b hf) hsz⟩,hst,⟨rfl,himm,fun i g i' g' he blk hb hg=>?_,fun i g i' g' he=>?_⟩⟩
 · rcases hnew id b hb with ⟨h1,h2,b0,h3,rfl⟩ | ⟨h1,h2⟩
   · have hk:=hall _ b0 h3
     obtain ⟨C,c1,c2,c3,c4,c5,c6⟩:=hc.cells (id:=id - base) (blk:=b0) (by rw [hn]; exact h3) (.inr hk.2)
     have e1 : φ' id = Ec.φ (id - base):=if_pos ⟨h1,h2⟩
     have e2 : cs' id = Ec.cs (id - base):=if_pos ⟨h1,h2⟩
     refine BlkOK.mk_cells (.inr hk.2) ⟨C,fun hp=>by simp only [e1]; exact c1 (by simpa only [e2] using hp),by simp only [e2]; exact c2,c3,c4,c5,fun r row j x q1 q2=>?_⟩
     obtain ⟨u,d1,d2,d3⟩:=c6 r row j x q1 q2
     rw [hk.1] at d3
     refine ⟨u,d1,d2, ?_⟩
     show CellR _ b0.inl x u
     rw [hk.1]
     exact RepI.mono (fun b hb=>⟨himm b hb,rfl⟩) _ _ d3
   · exact BlkOK.mono hst (if_neg h1) (if_neg h1) (fun hz hcs=>hold _ (hr.nf id b h2 hz hcs).1) (hr.blk id b h2)
 · rcases hnew i bi hi with ⟨a1,a2,b0,a3,a4⟩ | ⟨a1,a2⟩ <;> rcases hnew j bj hj with ⟨d1,d2,b1,d3,d4⟩ | ⟨d1,d2⟩
   · have ci' : 0 < Ec.cs (i - base):=by simpa [cs',a1,a2] using ci
     have cj' : 0 < Ec.cs (j - base):=by simpa [cs',d1,d2] using cj
     have:=hc.inj (i - base) (j - base) b0 b1 (by rw [hn]; exact a3) (by rw [hn]; exact d3) (by have:=hall _ b0 a3; omega) (by have:=hall _ b1 d3; omega) ci' cj' (by omega)
     simpa [φ',a1,a2,d1,d2] using this
   · have ci' : 0 < Ec.cs (i - base):=by simpa [cs',a1,a2] using ci
     have cj' : 0 < E.cs j:=by simpa [cs',d1] using cj
     have h1:=(hfresh _ b0 a3 ci').1
     have h2:=(hr.nf j bj d2 kj cj').1
     have e1 : φ' i = Ec.φ (i - base):=if_pos ⟨a1,a2⟩
     have e2 : φ' j = E.φ j:=if_neg d1
     simp only [e1,e2]; omega
   · have ci' : 0 < E.cs i:=by simpa [cs',a1] using ci
     have cj' : 0 < Ec.cs (j - base):=by simpa [cs',d1,d2] using cj
     have h1:=(hfresh _ b1 d3 cj').1
     have h2:=(hr.nf i bi a2 ki ci').1
     have e1 : φ' j = Ec.φ (j - base):=if_pos ⟨d1,d2⟩
     have e2 : φ' i = E.φ i:=if_neg a1
     simp only [e1,e2]; omega
   · have:=hr.inj i j bi bj a2 d2 ki kj (by simpa [cs',a1] using ci) (by simpa [cs',d1] using cj) hne
     simpa [φ',a1,d1] using this
 · rcases hnew id b hb with ⟨h1,h2,b0,h3,h4⟩ | ⟨h1,h2⟩
   · have hcs' : 0 < Ec.cs (id - base):=by simpa [cs',h1,h2] using hcs
     have hf:=hfresh _ b0 h3 hcs'
     have e1 : φ' id = Ec.φ (id - base):=if_pos ⟨h1,h2⟩
     simp only [e1]
     exact ⟨hf.2,fun h=>by have:=hr.fb _ h; omega⟩
   · have hcs' : 0 < E.cs id:=by simpa [cs',h1] using hcs
     have:=hr.nf id b h2 hk hcs'
     have e1 : φ' id = E.φ id:=if_neg h1
     simp only [e1]
     exact ⟨by omega,this.2⟩
 · simp only [newF] at he
   split at he
   · rename_i b0 gg hb0 hgg
     split at he
     · simp only [Option.some.injEq,Prod.mk.injEq] at he
       obtain ⟨rfl,rfl⟩:=he
       have hlt : i < news.length:=(List.getElem?_eq_some_iff.1 hb0).1
       have hin : base ≤ base + i ∧ base + i < base + news.length:=by omega
       rw [hn] at hb
       simp only at hb
       rw [hb0] at hb; cases hb
       have hg2:=gensOf_get base news 0 H i hlt
       rw [hgg] at hg2
       simp only [Nat.add_zero,Option.some.injEq] at hg2
       refine ⟨{ blk with gen:=genOf H (base + i) }, ?_,hg2.symm,rfl,rfl, ?_, ?_⟩
       · simp only; rw [hlk,if_pos hin]; simp [hb0]
       · simp [φ',hlt]
       · simp [cs',hlt]
     · cases he
   · cases he
 · simp only [newF] at he
   split at he
   · rename_i b0 gg hb0 hgg
     split at he
     · rename_i hgen
       exact ⟨b0,by rw [hn]; exact hb0,hgen⟩
     · cases he
   · cases he
theorem call_w {P : Program} {specs : FuncId → Option Spec} (hsp : ∀ f s,specs f = some s → FnC P f s.fn) {E : Env} {H : NL ABlk} (hH : E.H = lk H) (hr : HR E) {dst : Nat} {f : FuncId} {args : List AV} {vs : Array Value} (hx : RepL E args vs.toList) :
   SndW E H (callA specs dst f args) (CallAct P f vs):=by
 unfold callA
 split
 · exact SndW.fail
 · rename_i S hs
   have hf:=hsp f _ hs
   refine brwVs_w hH hr hx fun args' hargs=>?_
   split
   · rename_i r hS
     split
     · rename_i hflat
       intro out ho
       simp only [AP.run,Option.some.injEq] at ho
       subst ho
       have hE0 : (env0 E.w (fun _=>False)).imm = E.all:=by
         funext b; simp [Env.imm,env0,Env.all]
       have hargs' : RepL (env0 E.w (fun _=>False)) args' vs.toList:=RepIL.rep _ _ (by rw [hE0]; exact hargs)
       have:=hf.calls args' [] r [] hS (env0 E.w (fun _=>False)) vs (by funext i; simp [env0]) (HR.env0 (fun b h=>h.elim)) hargs'
       refine this.mono fun e w' ⟨v,Ec,h1,h2,h3,h4,h5,h6⟩=>⟨v,h1,trivial, ?_⟩
       obtain ⟨q1,q2⟩:=after_call hr h5
       exact ⟨⟨Ec.w,E.H,E.φ,E.cs,E.F⟩,h2,hH,q1,q2,flat_rep hflat h6⟩
     · exact SndW.fail
   · exact SndW.fail
 · rename_i S hs
   have hf:=hsp f _ hs
   refine frzVs_w hH hr hx fun E1 H1 args' e1 e2 e3 e4 e5=>?_
   split
   · rename_i r news hS
     split
     · rename_i hall
       have hall' : ∀ (i : Nat) (b : ABlk),news[i]? = some b → b.inl = true ∧ b.kind = 2:=fun i b hb=>by
         have:=List.all_eq_true.1 hall b (List.mem_of_getElem? hb)
         simpa using this
       intro out ho
       obtain ⟨o,q1,q2,q3,q4⟩:=instA_run _ _ _ _ _ _ ho
       simp only [AP.run,Option.some.injEq] at q1
       subst q1
       simp only at q2 q3 q4
       have hargs' : RepL (env0 E1.w (keepOut E1)) args' vs.toList:=RepIL.rep _ _ (RepIL.mono (fun b hb=>⟨keepOut_imm hb,rfl⟩) _ _ e5)
       have:=hf.calls args' [] r news hS (env0 E1.w (keepOut E1)) vs (by funext i; simp [env0]) (HR.env0 (fun b h=>by
         rcases h with h | h
         · exact e3.fb b h
         · exact h.1)) hargs'
       refine this.mono fun e w' ⟨v,Ec,h1,h2,h3,h4,h5,h6⟩=>⟨v,h1,by rw [q4]; trivial, ?_⟩
       obtain ⟨E',g1,g2,g3,g4,g5⟩:=adopt e3 e2 h3 h4 h5 hall' (newId dst)
       refine ⟨E',by rw [g1,h2],by rw [g2,q3],g3,g4, ?_⟩
       rw [q2]
       have:=ren_rep g5 r v h6
       simpa using this
     · exact SndW.fail
   · exact SndW.fail
end
end Go.Abs
namespace Go.Abs
open Go
set_option linter.unusedVariables false
set_option linter.unusedSimpArgs false
section
def renB (f : Nat → Nat → Option (Nat × Nat)) (g : Nat) (b : ABlk) : ABlk :=
 { b with gen:=g,rows:=if b.inl = true ∧ b.kind ≠ 3 then b.rows else b.rows.map (renL f) }
theorem renL_length {f : Nat → Nat → Option (Nat × Nat)} : ∀ (l : List AV),(renL f l).length = l.length
 | []=>rfl
 | _ :: r=>by simp [renL,renL_length r]
theorem renL_get {f : Nat → Nat → Option (Nat × Nat)} : ∀ (l : List AV) (j : Nat),(renL f l)[j]? = (l[j]?).map (·.ren f)
 | [],j=>by simp [renL]
 | x :: r,0=>by simp [renL]
 | x :: r,j + 1=>by simp [renL,renL_get r j]
theorem BlkOK.ren {f : Nat → Nat → Option (Nat × Nat)} {E E' : Env} (hf : RenOK f E E') {i i' g' : Nat} {b : ABlk} (hφ : E'.φ i' = E.φ i) (hcs : E'.cs i' = E.cs i) (h : BlkOK E i b) : BlkOK E' i' (renB f g' b) := by
 unfold BlkOK at h ⊢
 have hk : (renB f g' b).kind = b.kind:=rfl
 rw [hk,hφ,hcs,hf.w]
 have cells : (hc : b.kind = 1 ∨ b.kind = 2) → (∃ C : Array Value,(0 < E.cs i → E.w.heap[E.φ i]? = some (.cells C b.elem (0,0))) ∧ C.size = E.cs i ∧ 0 < b.size ∧ b.rows.length * b.size ≤ C.size ∧
     (∀ (r : Nat) (row : List AV),b.rows[r]? = some row → row.length = b.size) ∧
     ∀ (r : Nat) (row : List AV) (j : Nat) (x : AV),b.rows[r]? = some row → row[j]? = some x → ∃ u,C[r * b.size + j]? = some u ∧ u.oneCell' = true ∧ CellR E b.inl x u) →
     (∃ C : Array Value,(0 < E.cs i → E.w.heap[E.φ i]? = some (.cells C b.elem (0,0))) ∧ C.size = E.cs i ∧ 0 < b.size ∧ (renB f g' b).rows.length * b.size ≤ C.size ∧
     (∀ (r : Nat) (row : List AV),(renB f g' b).rows[r]? = some row → row.length = b.size) ∧
     ∀ (r : Nat) (row : List AV) (j : Nat) (x : AV),(renB f g' b).rows[r]? = some row → row[j]? = some x → ∃ u,C[r * b.size + j]? = some u ∧ u.oneCell' = true ∧ CellR E' b.inl x u):=by
   rintro hc ⟨C,a1,a2,a3,a4,a5,a6⟩
   by_cases hi : b.inl = true
   · have hr : (renB f g' b).rows = b.rows:=if_pos ⟨hi,by omega⟩
     rw [hr]
     refine ⟨C,a1,a2,a3,a4,a5,fun r row j x h1 h2=>?_⟩
     obtain ⟨u,b1,b2,b3⟩:=a6 r row j x h1 h2
     refine ⟨u,b1,b2, ?_⟩
     rw [hi] at b3 ⊢
     exact RepI.mono (fun b hb=>⟨hf.imm b hb,by rw [hf.w]⟩) _ _ b3
   · have hr : (renB f g' b).rows = b.rows.map (renL f):=if_neg (fun hh=>hi hh.1)
     have hi' : b.inl = false:=by simpa using hi
     rw [hr]
     refine ⟨C,a1,a2,a3,by simpa using a4,fun r row h1=>?_,fun r row j x h1 h2=>?_⟩
     · simp only [List.getElem?_map,Option.map_eq_some_iff] at h1
       obtain ⟨row0,h1,rfl⟩:=h1
       rw [renL_length]
       exact a5 r row0 h1
     · simp only [List.getElem?_map,Option.map_eq_some_iff] at h1
       obtain ⟨row0,h1,rfl⟩:=h1
       simp only [renL_get,Option.map_eq_some_iff] at h2
       obtain ⟨x0,h2,rfl⟩:=h2
       obtain ⟨u,b1,b2,b3⟩:=a6 r row0 j x0 h1 h2
       refine ⟨u,b1,b2, ?_⟩
       rw [hi'] at b3 ⊢
       exact ren_rep hf _ _ b3
 split <;> rename_i hkk <;> simp only [hkk] at h
 · trivial
 · exact cells (.inl hkk) h
 · exact cells (.inr hkk) h
 · obtain ⟨hp,es,cl,a1,a2,a2',a3,a4⟩:=h
   have hr : (renB f g' b).rows = b.rows.map (renL f):=if_neg (fun hh=>hh.2 hkk)
   rw [hr]
   refine ⟨hp,es,cl,a1,a2,a2',by simpa using a3,fun r row h1=>?_⟩
   simp only [List.getElem?_map,Option.map_eq_some_iff] at h1
   obtain ⟨row0,h1,rfl⟩:=h1
   obtain ⟨k,v,e,b1,b2,b3,b4⟩:=a4 r row0 h1
   subst b1
   exact ⟨k.ren f,v.ren f,e,by simp [renL],b2,ren_rep hf _ _ b3,ren_rep hf _ _ b4⟩
def fF (L : List (Nat × ABlk)) (i g : Nat) : Option (Nat × Nat) :=
 match L.findIdx? (fun p=>p.1 == i) with
 | some k=>match L[k]? with
   | some p=>if p.2.gen = g then some (k,0) else none
   | none=>none
 | none=>none
def handB (L : List (Nat × ABlk)) : List ABlk := L.map fun p => renB (fF L) 0 p.2
def keepB (E : Env) (L : List (Nat × ABlk)) (b : Nat) : Prop := E.F b ∨ (b < E.w.heap.size ∧ ∃ id blk,E.H id = some blk ∧ 2 ≤ blk.kind ∧ 0 < E.cs id ∧ E.φ id = b ∧ ∀ p ∈ L,p.1 ≠ id)
def envB (E : Env) (L : List (Nat × ABlk)) : Env :=
 ⟨E.w,fun j=>(handB L)[j]?,fun j=>E.φ ((L[j]?).map (·.1) |>.getD 0),fun j=>E.cs ((L[j]?).map (·.1) |>.getD 0),keepB E L⟩
theorem fF_some {L : List (Nat × ABlk)} {i g i' g' : Nat} (h : fF L i g = some (i',g')) : ∃ b,L[i']? = some (i,b) ∧ b.gen = g ∧ g' = 0 := by
 unfold fF at h
 split at h
 · rename_i k hk
   split at h
   · rename_i p hp
     split at h
     · rename_i hg
       simp only [Option.some.injEq,Prod.mk.injEq] at h
       obtain ⟨rfl,rfl⟩:=h
       rw [List.findIdx?_eq_some_iff_getElem] at hk
       obtain ⟨hlt,h1,_⟩:=hk
       have : L[k] = p:=by
         have:=List.getElem?_eq_getElem hlt
         rw [this] at hp
         exact Option.some.inj hp
       rw [this] at h1
       simp only [beq_iff_eq] at h1
       refine ⟨p.2, ?_,hg,rfl⟩
       rw [hp, ← h1]
     · cases h
   · cases h
 · cases h
theorem handB_get {L : List (Nat × ABlk)} {j : Nat} {b : ABlk} (h : (handB L)[j]? = some b) : ∃ id b0,L[j]? = some (id,b0) ∧ b = renB (fF L) 0 b0 := by
 simp only [handB,List.getElem?_map,Option.map_eq_some_iff] at h
 obtain ⟨p,h1,h2⟩:=h
 exact ⟨p.1,p.2,h1,h2.symm⟩
theorem hand_over {E : Env} {H : NL ABlk} (hH : E.H = lk H) (hr : HR E) {L : List (Nat × ABlk)} (hnd : (L.map (·.1)).Nodup) (hL : ∀ p ∈ L,lk H p.1 = some p.2 ∧ p.2.kind ≠ 0) :
   HR (envB E L) ∧ RenOK (fF L) E (envB E L):=by
 have hφ : ∀ (j id : Nat) (b : ABlk),L[j]? = some (id,b) → (envB E L).φ j = E.φ id ∧ (envB E L).cs j = E.cs id ∧ E.H id = some b ∧ b.kind ≠ 0:=by
   intro j id b h
   have:=hL _ (List.mem_of_getElem? h)
   exact ⟨by simp [envB,h],by simp [envB,h],by rw [hH]; exact this.1,this.2⟩
 have hinj : ∀ (i j id : Nat) (b b' : ABlk),L[i]? = some (id,b) → L[j]? = some (id,b') → i = j:=by
   intro i j id b b' h1 h2
   have hi:=(List.getElem?_eq_some_iff.1 h1).1
   exact (List.getElem?_inj (by simpa using hi) hnd).1 (by simp [h1,h2])
 have himm : ∀ b,E.imm b → (envB E L).imm b:=by
   intro b hb
   refine ⟨hb.1,fun hk=>?_,fun j blk hj hk hc he=>?_⟩
   · rcases hk with hk | ⟨_,id,blk,h1,h2,h3,h4,_⟩
     · exact hb.2.1 hk
     · exact hb.2.2 id blk h1 h2 h3 h4
   · obtain ⟨id,b0,h1,rfl⟩:=handB_get hj
     obtain ⟨e1,e2,e3,e4⟩:=hφ j id b0 h1
     exact hb.2.2 id b0 e3 hk (by rw [← e2]; exact hc) (by rw [← e1]; exact he)
 have hren : RenOK (fF L) E (envB E L):=by
   refine ⟨rfl,himm,fun i g i' g' he blk hb hg=>?_,fun i g i' g' he=>?_⟩
   · obtain ⟨b,h1,h2,rfl⟩:=fF_some he
     obtain ⟨e1,e2,e3,e4⟩:=hφ i' i b h1
     rw [e3] at hb; cases hb
     exact ⟨renB (fF L) 0 blk,by simp [envB,handB,h1],rfl,rfl,rfl,e1,e2⟩
   · obtain ⟨b,h1,h2,rfl⟩:=fF_some he
     obtain ⟨e1,e2,e3,e4⟩:=hφ i' i b h1
     exact ⟨b,e3,h2⟩
 refine ⟨⟨fun j b hb=>?_,fun i j bi bj hi hj ki kj ci cj hne=>?_,fun j b hb hk hc=>?_,fun b hb=>?_⟩,hren⟩
 · obtain ⟨id,b0,h1,rfl⟩:=handB_get hb
   obtain ⟨e1,e2,e3,e4⟩:=hφ j id b0 h1
   exact BlkOK.ren hren e1 e2 (hr.blk id b0 e3)
 · obtain ⟨id1,b1,h1,rfl⟩:=handB_get hi
   obtain ⟨id2,b2,h2,rfl⟩:=handB_get hj
   obtain ⟨e1,e2,e3,e4⟩:=hφ i id1 b1 h1
   obtain ⟨f1,f2,f3,f4⟩:=hφ j id2 b2 h2
   rw [e1,f1]
   refine hr.inj id1 id2 b1 b2 e3 f3 e4 f4 (by rw [← e2]; exact ci) (by rw [← f2]; exact cj) fun e=>hne ?_
   subst e
   exact hinj i j id1 b1 b2 h1 h2
 · obtain ⟨id,b0,h1,rfl⟩:=handB_get hb
   obtain ⟨e1,e2,e3,e4⟩:=hφ j id b0 h1
   have hc' : 0 < E.cs id:=by rw [← e2]; exact hc
   obtain ⟨g1,g2⟩:=hr.nf id b0 e3 e4 hc'
   rw [e1]
   refine ⟨g1,fun hk=>?_⟩
   rcases hk with hk | ⟨_,id',blk,k1,k2,k3,k4,k5⟩
   · exact g2 hk
   · refine hr.inj id' id blk b0 k1 e3 (by omega) e4 k3 hc' (fun e=>?_) k4
     exact k5 _ (List.mem_of_getElem? h1) e.symm
 · rcases hb with hb | ⟨hb,_⟩
   · exact hr.fb b hb
   · exact hb
def backF (ids : List (Nat × Nat)) (B : List ABlk) (i g : Nat) : Option (Nat × Nat) := match B[i]? with
 | some b=>if g = b.gen then ids[i]? else none
 | none=>none
def puts (H : NL ABlk) : List (Nat × ABlk) → NL ABlk
 | []=>H
 | (i,b) :: r=>puts (st H i b) r
theorem lk_puts_other : ∀ (l : List (Nat × ABlk)) (H : NL ABlk) (id : Nat),(∀ p ∈ l,p.1 ≠ id) → lk (puts H l) id = lk H id
 | [],_,_,_=>rfl
 | (i,b) :: r,H,id,h=>by
   simp only [puts]
   rw [lk_puts_other r _ id (fun p hp=>h p (by simp [hp])),lk_st,if_neg (h (i,b) (by simp))]
theorem lk_puts : ∀ (l : List (Nat × ABlk)) (H : NL ABlk) (j id : Nat) (b : ABlk),(l.map (·.1)).Nodup → l[j]? = some (id,b) → lk (puts H l) id = some b
 | [],_,_,_,_,_,h=>by simp at h
 | (i,b0) :: r,H,0,id,b,hnd,h=>by
   simp only [List.getElem?_cons_zero,Option.some.injEq,Prod.mk.injEq] at h
   obtain ⟨rfl,rfl⟩:=h
   simp only [puts]
   simp only [List.map_cons,List.nodup_cons,List.mem_map,not_exists,not_and] at hnd
   rw [lk_puts_other r _ i (fun p hp e=>hnd.1 p hp e),lk_st,if_pos rfl]
 | (i,b0) :: r,H,j + 1,id,b,hnd,h=>by
   simp only [List.getElem?_cons_succ] at h
   simp only [puts]
   simp only [List.map_cons,List.nodup_cons] at hnd
   exact lk_puts r _ j id b hnd.2 h
def backL (ids : List (Nat × Nat)) (B : List ABlk) : List (Nat × ABlk) := (ids.zip B).map fun p => (p.1.1,renB (backF ids B) p.1.2 p.2)
theorem backL_get {ids : List (Nat × Nat)} {B : List ABlk} {j id g : Nat} {b : ABlk} (h1 : ids[j]? = some (id,g)) (h2 : B[j]? = some b) : (backL ids B)[j]? = some (id,renB (backF ids B) g b) := by
 simp only [backL,List.getElem?_map]
 rw [List.getElem?_zip_eq_some (z:=((id,g),b)) |>.2 ⟨h1,h2⟩]
 rfl
theorem backL_fst {ids : List (Nat × Nat)} {B : List ABlk} (h : ids.length = B.length) : (backL ids B).map (·.1) = ids.map (·.1) := by
 have h1 : ((ids.zip B).map Prod.fst) = ids:=List.map_fst_zip (by omega)
 calc (backL ids B).map (·.1) = ((ids.zip B).map Prod.fst).map (·.1):=by simp [backL,List.map_map,Function.comp_def]
   _ = ids.map (·.1):=by rw [h1]
theorem adoptB {E Ec : Env} {H : NL ABlk} (hH : E.H = lk H) (hr : HR E) {L : List (Nat × ABlk)} (hnd : (L.map (·.1)).Nodup) (hL : ∀ p ∈ L,lk H p.1 = some p.2 ∧ p.2.kind ≠ 0)
   {B : List ABlk} (hB : Ec.H = fun i=>B[i]?) (hc : HR Ec) (hs : Step (envB E L) Ec) (hmv : ∀ (j : Nat) (b : ABlk),j < L.length → B[j]? = some b → b.gen = 0 ∨ b.gen = 1 ∧ b.kind = 2) (hgn : ∀ (j : Nat) (b : ABlk),L.length ≤ j → B[j]? = some b → b.gen = 0)
   {ids : List (Nat × Nat)} (hil : ids.length = B.length) (hin : (ids.map (·.1)).Nodup) (hlen : L.length ≤ ids.length)
   (hold : ∀ (j id g : Nat) (bj : ABlk),j < L.length → ids[j]? = some (id,g) → B[j]? = some bj → ∃ b,L[j]? = some (id,b) ∧ g = b.gen + bj.gen)
   (hnew : ∀ (j id g : Nat),L.length ≤ j → ids[j]? = some (id,g) → (∀ p ∈ L,p.1 ≠ id) ∧ g = genOf H id) (hk2 : ∀ (j : Nat) (b : ABlk),L.length ≤ j → B[j]? = some b → 2 ≤ b.kind) :
   ∃ E',E'.w = Ec.w ∧ E'.H = lk (puts H (backL ids B)) ∧ HR E' ∧ Step E E' ∧ RenOK (backF ids B) Ec E':=by
 have hφ : ∀ (j id : Nat) (b : ABlk),L[j]? = some (id,b) → (envB E L).φ j = E.φ id ∧ (envB E L).cs j = E.cs id ∧ E.H id = some b ∧ b.kind ≠ 0 ∧ (envB E L).H j = some (renB (fF L) 0 b):=by
   intro j id b h
   have:=hL _ (List.mem_of_getElem? h)
   exact ⟨by simp [envB,h],by simp [envB,h],by rw [hH]; exact this.1,this.2,by simp [envB,handB,h]⟩
 let pos : Nat → Option Nat:=fun id=>ids.findIdx? (fun p=>p.1 == id)
 have pos_some : ∀ id j,pos id = some j → ∃ g b,ids[j]? = some (id,g) ∧ B[j]? = some b:=by
   intro id j h
   simp only [pos,List.findIdx?_eq_some_iff_getElem] at h
   obtain ⟨hlt,h1,_⟩:=h
   simp only [beq_iff_eq] at h1
   exact ⟨(ids[j]).2,B[j]'(by omega),by rw [List.getElem?_eq_getElem hlt, ← h1],List.getElem?_eq_getElem (by omega)⟩
 have pos_none : ∀ id,pos id = none → ∀ p ∈ ids,p.1 ≠ id:=by
   intro id h p hp e
   simp only [pos,List.findIdx?_eq_none_iff] at h
   have:=h p hp
   simp [e] at this
 have pos_of : ∀ (j id g : Nat),ids[j]? = some (id,g) → pos id = some j:=by
   intro j id g h
   cases hp : pos id with
   | none=>exact absurd rfl (pos_none id hp _ (List.mem_of_getElem? h))
   | some k =>
     obtain ⟨g',b',h1,_⟩:=pos_some id k hp
     have hk:=(List.getElem?_eq_some_iff.1 h1).1
     have:=(List.getElem?_inj (by simpa using hk) hin).1 (show (ids.map (·.1))[k]? = (ids.map (·.1))[j]? by simp [h,h1])
     rw [this]
 have hlk_in : ∀ (j id g : Nat) (b : ABlk),ids[j]? = some (id,g) → B[j]? = some b → lk (puts H (backL ids B)) id = some (renB (backF ids B) g b):=fun j id g b h1 h2 =>
   lk_puts _ H j id _ (by rw [backL_fst hil]; exact hin) (backL_get h1 h2)
 have hlk_out : ∀ id,pos id = none → lk (puts H (backL ids B)) id = lk H id:=fun id h =>
   lk_puts_other _ H id fun p hp e=>by
     have : p.1 ∈ (backL ids B).map (·.1):=List.mem_map.2 ⟨p,hp,rfl⟩
     rw [backL_fst hil] at this
     obtain ⟨q,hq,he⟩:=List.mem_map.1 this
     exact pos_none id h q hq (he.trans e)
 have hLout : ∀ id,pos id = none → ∀ p ∈ L,p.1 ≠ id:=by
   intro id h p hp e
   obtain ⟨j,hj,he⟩:=List.mem_iff_getElem.1 hp
   have hj' : j < ids.length:=by omega
   obtain ⟨b,hb,_⟩:=hold j ids[j].1 ids[j].2 (B[j]'(by omega)) hj (by rw [List.getElem?_eq_getElem hj']) (List.getElem?_eq_getElem (by omega))
   rw [List.getElem?_eq_getElem hj,he] at hb
   simp only [Option.some.injEq] at hb
   exact pos_none id h ids[j] (List.getElem_mem hj') (by rw [← e,hb])
 let φ' : Nat → Nat:=fun id=>match pos id with
   | some j=>Ec.φ j
   | none=>E.φ id
 let cs' : Nat → Nat:=fun id=>match pos id with
   | some j=>Ec.cs j
   | none=>E.cs id
 have hin' : ∀ id j,pos id = some j → φ' id = Ec.φ j ∧ cs' id = Ec.cs j:=fun id j h=>by simp [φ',cs',h]
 have hout' : ∀ id,pos id = none → φ' id = E.φ id ∧ cs' id = E.cs id:=fun id h=>by simp [φ',cs',h]
 have hsz : E.w.heap.size ≤ Ec.w.heap.size:=hs.size
 -- what lies outside of what was handed over stays
 have hkeep : ∀ b,b < E.w.heap.size → (∀ p ∈ L,2 ≤ p.2.kind → 0 < E.cs p.1 → E.φ p.1 ≠ b) → Ec.w.heap[b]? = E.w.heap[b]?:=by
   intro b hb hn
   refine hs.old b hb fun j blk hj hk hcs he=>?_
   obtain ⟨id,b0,h1,rfl⟩:=handB_get hj
   obtain ⟨e1,e2,_⟩:=hφ j id b0 h1
   exact hn (id,b0) (List.mem_of_getElem? h1) hk (by simpa only [← e2] using hcs) (by simpa only [← e1] using he)
 have hcur : ∀ (j id g : Nat) (b : ABlk),j < L.length → ids[j]? = some (id,g) → B[j]? = some b → b.gen = 0 → ∃ b0,L[j]? = some (id,b0) ∧ b0.gen = g ∧ E.H id = some b0 ∧ b0.kind ≠ 0 ∧
     (b.kind = b0.kind ∨ b0.kind = 2 ∧ b.kind = 1) ∧ b.size = b0.size ∧ b.elem = b0.elem ∧ Ec.φ j = E.φ id ∧ Ec.cs j = E.cs id:=by
   intro j id g b hj h1 h2 hz
   obtain ⟨b0,h3,h4⟩:=hold j id g b hj h1 h2
   rw [hz,Nat.add_zero] at h4
   replace h4:=h4.symm
   obtain ⟨e1,e2,e3,e4,e5⟩:=hφ j id b0 h3
   obtain ⟨b',q1,q2,q3⟩:=hs.ref j _ e5
   rw [hB] at q1
   simp only at q1
   rw [h2] at q1; cases q1
   obtain ⟨k1,k2,k3,k4,k5⟩:=q3 hz e4
   exact ⟨b0,h3,h4,e3,e4,k1,k2,k3,k4.trans e1,k5.trans e2⟩
 -- a block that took another one's place
 have hmov : ∀ (j id g : Nat) (b : ABlk),j < L.length → ids[j]? = some (id,g) → B[j]? = some b → b.gen = 1 → ∃ b0,L[j]? = some (id,b0) ∧ g = b0.gen + 1 ∧ E.H id = some b0 ∧ b0.kind ≠ 0:=by
   intro j id g b hj h1 h2 hz
   obtain ⟨b0,h3,h4⟩:=hold j id g b hj h1 h2
   rw [hz] at h4
   obtain ⟨e1,e2,e3,e4,e5⟩:=hφ j id b0 h3
   exact ⟨b0,h3,h4,e3,e4⟩
 -- where a block lies that may be written
 have hlive : ∀ (j id g : Nat) (b : ABlk),ids[j]? = some (id,g) → B[j]? = some b → 2 ≤ b.kind → 0 < Ec.cs j → (∃ (ic : Nat) (b00 : ABlk),E.H ic = some b00 ∧ 2 ≤ b00.kind ∧ 0 < E.cs ic ∧ Ec.φ j = E.φ ic ∧ (∃ p ∈ L,p.1 = ic) ∧ (ic = id ∨ ∃ b1,lk (puts H (backL ids B)) ic = some b1 ∧ b00.gen < b1.gen)) ∨ E.w.heap.size ≤ Ec.φ j:=by
   intro j id g b hj1 hj2 hk hcs
   rcases hs.live j b (by rw [hB]; exact hj2) hk hcs with ⟨i0,blk,hb,f1,f2,f3,f4⟩ | hge
   · obtain ⟨ic,b00,h1,rfl⟩:=handB_get hb
     obtain ⟨e1,e2,e3,e4,e5⟩:=hφ i0 ic b00 h1
     refine .inl ⟨ic,b00,e3,f1,by rw [← e2]; exact f2,f3.trans e1,⟨_,List.mem_of_getElem? h1,rfl⟩, ?_⟩
     have hi0 : i0 < L.length:=(List.getElem?_eq_some_iff.1 h1).1
     rcases f4 with rfl | ⟨b1,g1,g2⟩
     · obtain ⟨b',h3,_⟩:=hold i0 id g b hi0 hj1 hj2
       rw [h1] at h3
       cases h3
       exact .inl rfl
     · rw [hB] at g1
       have g2 : 0 < b1.gen:=g2
       have hz : b1.gen = 1:=by rcases hmv i0 b1 hi0 g1 with h | h <;> omega
       obtain ⟨⟨ic',g'⟩,hid⟩ : ∃ p,ids[i0]? = some p:=⟨_,List.getElem?_eq_getElem (by omega)⟩
       obtain ⟨b',h3,h4⟩:=hold i0 ic' g' b1 hi0 hid g1
       rw [h1] at h3
       cases h3
       refine .inr ⟨_,hlk_in i0 ic g' b1 hid g1, ?_⟩
       show b00.gen < g'
       omega
   · exact .inr hge
 have hst : Step E ⟨Ec.w,lk (puts H (backL ids B)), φ',cs',E.F⟩:=by
   refine ⟨hsz,fun b hb hn=>hkeep b hb fun p hp hk hcs he=>hn p.1 p.2 (by rw [hH]; exact (hL p hp).1) hk hcs he,rfl,fun id blk hb=>?_,fun id blk' hb hk hcs=>?_,hs.kept⟩
   · cases hp : pos id with
     | none =>
       obtain ⟨e1,e2⟩:=hout' id hp
       exact ⟨blk,by simp only; rw [hlk_out id hp, ← hH]; exact hb,Nat.le_refl _,fun _ _=>⟨.inl rfl,rfl,rfl,e1,e2⟩⟩
     | some j =>
       obtain ⟨g,b,h1,h2⟩:=pos_some id j hp
       obtain ⟨e1,e2⟩:=hin' id j hp
       refine ⟨_,hlk_in j id g b h1 h2, ?_, ?_⟩
       · by_cases hj : j < L.length
         · rcases hmv j b hj h2 with hz | ⟨hz,_⟩
           · obtain ⟨b0,k1,k2,k3,_⟩:=hcur j id g b hj h1 h2 hz
             rw [hb] at k3; cases k3
             show blk.gen ≤ g
             omega
           · obtain ⟨b0,k1,k2,k3,_⟩:=hmov j id g b hj h1 h2 hz
             rw [hb] at k3; cases k3
             show blk.gen ≤ g
             omega
         · obtain ⟨_,hg⟩:=hnew j id g (by omega) h1
           show blk.gen ≤ g
           have : genOf H id = blk.gen + 1:=by simp [genOf, ← hH,hb]
           omega
       · intro hg _
         have hg' : g = blk.gen:=hg
         by_cases hj : j < L.length
         · rcases hmv j b hj h2 with hz | ⟨hz,_⟩
           · obtain ⟨b0,k1,k2,k3,k4,k5,k6,k7,k8,k9⟩:=hcur j id g b hj h1 h2 hz
             rw [hb] at k3; cases k3
             exact ⟨k5,k6,k7,e1.trans k8,e2.trans k9⟩
           · obtain ⟨b0,k1,k2,k3,_⟩:=hmov j id g b hj h1 h2 hz
             rw [hb] at k3; cases k3
             omega
         · obtain ⟨_,hgg⟩:=hnew j id g (by omega) h1
           have : genOf H id = blk.gen + 1:=by simp [genOf, ← hH,hb]
           omega
   · cases hp : pos id with
     | none =>
       obtain ⟨e1,e2⟩:=hout' id hp
       simp only at hb hcs
       rw [hlk_out id hp, ← hH] at hb
       exact .inl ⟨id,blk',hb,hk,by rw [← e2]; exact hcs,e1, .inl rfl⟩
     | some j =>
       obtain ⟨g,b,h1,h2⟩:=pos_some id j hp
       obtain ⟨e1,e2⟩:=hin' id j hp
       simp only at hb hcs
       rw [hlk_in j id g b h1 h2] at hb
       simp only [Option.some.injEq] at hb
       subst hb
       rcases hlive j id g b h1 h2 hk (by rw [← e2]; exact hcs) with ⟨ic,b00,c1,c2,c3,c4,_,c5⟩ | hge
       · exact .inl ⟨ic,b00,c1,c2,c3,e1.trans c4,c5⟩
       · right
         show E.w.heap.size ≤ φ' id
         rw [e1]; exact hge
 have himm : ∀ b,Ec.imm b → (Env.mk Ec.w (lk (puts H (backL ids B))) φ' cs' E.F).imm b:=by
   intro b hb
   have hF : ¬ keepB E L b:=by have:=hb.2.1; rw [hs.fo] at this; exact this
   refine ⟨hb.1,fun hf=>hF (.inl hf),fun id blk hbk hk hcs he=>?_⟩
   cases hp : pos id with
   | none =>
     obtain ⟨e1,e2⟩:=hout' id hp
     simp only at hbk hcs he
     rw [hlk_out id hp, ← hH] at hbk
     rw [e2] at hcs
     rw [e1] at he
     refine hF (.inr ⟨?_,id,blk,hbk,hk,hcs,he,hLout id hp⟩)
     have:=(hr.nf id blk hbk (by omega) hcs).1
     omega
   | some j =>
     obtain ⟨g,b1,h1,h2⟩:=pos_some id j hp
     obtain ⟨e1,e2⟩:=hin' id j hp
     simp only at hbk hcs he
     rw [hlk_in j id g b1 h1 h2] at hbk
     simp only [Option.some.injEq] at hbk
     subst hbk
     exact hb.2.2 j b1 (by rw [hB]; exact h2) hk (by rw [← e2]; exact hcs) (by rw [← e1]; exact he)
 have hren : RenOK (backF ids B) Ec ⟨Ec.w,lk (puts H (backL ids B)), φ',cs',E.F⟩:=by
   have key : ∀ i g i' g',backF ids B i g = some (i',g') → ∃ b,B[i]? = some b ∧ g = b.gen ∧ ids[i]? = some (i',g'):=by
     intro i g i' g' he
     unfold backF at he
     split at he
     · rename_i b hb
       split at he
       · exact ⟨b,hb,by assumption,he⟩
       · cases he
     · cases he
   refine ⟨rfl,himm,fun i g i' g' he blk hb hg=>?_,fun i g i' g' he=>?_⟩
   · obtain ⟨_,_,_,h1⟩:=key i g i' g' he
     rw [hB] at hb
     obtain ⟨e1,e2⟩:=hin' i' i (pos_of i i' g' h1)
     exact ⟨_,hlk_in i i' g' blk h1 hb,rfl,rfl,rfl,e1,e2⟩
   · obtain ⟨b,hb,hg,h1⟩:=key i g i' g' he
     exact ⟨b,by rw [hB]; exact hb,hg.symm⟩
 refine ⟨⟨Ec.w,lk (puts H (backL ids B)), φ',cs',E.F⟩,rfl,rfl,⟨fun id b hb=>?_,fun i j bi bj hi hj ki kj ci cj hne=>?_,fun id b hb hk hcs=>?_,fun b hf=>Nat.lt_of_lt_of_le (hr.fb b hf) hsz⟩,hst,hren⟩
 · cases hp : pos id with
   | none =>
     obtain ⟨e1,e2⟩:=hout' id hp
     simp only at hb
     rw [hlk_out id hp, ← hH] at hb
     refine BlkOK.mono hst e1 e2 (fun hz hcs=>hkeep _ (hr.nf id b hb hz hcs).1 fun p hp' hk' hcs' he=>?_) (hr.blk id b hb)
     exact hr.inj p.1 id p.2 b (by rw [hH]; exact (hL p hp').1) hb (hL p hp').2 hz hcs' hcs (hLout id hp p hp') he
   | some j =>
     obtain ⟨g,b1,h1,h2⟩:=pos_some id j hp
     obtain ⟨e1,e2⟩:=hin' id j hp
     simp only at hb
     rw [hlk_in j id g b1 h1 h2] at hb
     simp only [Option.some.injEq] at hb
     subst hb
     exact BlkOK.ren hren e1 e2 (hc.blk j b1 (by rw [hB]; exact h2))
 · simp only at hi hj ci cj ⊢
   have far : ∀ (i j : Nat) (bi bj : ABlk) (m : Nat),pos i = some m → pos j = none → lk (puts H (backL ids B)) i = some bi → lk (puts H (backL ids B)) j = some bj → bi.kind ≠ 0 → bj.kind ≠ 0 → 0 < cs' i → 0 < cs' j → φ' i ≠ φ' j:=by
     intro i j bi bj m pi pj hi hj ki kj ci cj
     obtain ⟨g,b1,h1,h2⟩:=pos_some i m pi
     obtain ⟨e1,e2⟩:=hin' i m pi
     obtain ⟨f1,f2⟩:=hout' j pj
     rw [hlk_in m i g b1 h1 h2] at hi
     simp only [Option.some.injEq] at hi
     subst hi
     rw [hlk_out j pj, ← hH] at hj
     rw [f2] at cj
     rw [e2] at ci
     rw [e1,f1]
     intro he
     have away : 2 ≤ b1.kind → False:=fun hk=>by
       rcases hlive m i g b1 h1 h2 hk ci with ⟨ic,b00,c1,c2,c3,c4,⟨p,hp,rfl⟩,_⟩ | hge
       · exact hr.inj p.1 j b00 bj c1 hj (by omega) kj c3 cj (hLout j pj p hp) (by rw [← c4]; exact he)
       · have hlt:=(hr.nf j bj hj kj cj).1
         omega
     by_cases hm : m < L.length
     · rcases hmv m b1 hm h2 with hz | ⟨hz,hz2⟩
       · obtain ⟨b0,k1,k2,k3,k4,k5,k6,k7,k8,k9⟩:=hcur m i g b1 hm h1 h2 hz
         exact hr.inj i j b0 bj k3 hj k4 kj (by rw [← k9]; exact ci) cj (fun e=>by subst e; rw [pi] at pj; cases pj) (by rw [← k8]; exact he)
       · exact away (by omega)
     · exact away (hk2 m b1 (by omega) h2)
   cases pi : pos i with
   | none =>
     cases pj : pos j with
     | none =>
       obtain ⟨e1,e2⟩:=hout' i pi
       obtain ⟨f1,f2⟩:=hout' j pj
       rw [hlk_out i pi, ← hH] at hi
       rw [hlk_out j pj, ← hH] at hj
       rw [e1,f1]
       exact hr.inj i j bi bj hi hj ki kj (by rw [← e2]; exact ci) (by rw [← f2]; exact cj) hne
     | some m=>exact fun he=>far j i bj bi m pj pi hj hi kj ki cj ci he.symm
   | some m =>
     cases pj : pos j with
     | none=>exact far i j bi bj m pi pj hi hj ki kj ci cj
     | some n =>
       obtain ⟨g,b1,h1,h2⟩:=pos_some i m pi
       obtain ⟨g',b2,h3,h4⟩:=pos_some j n pj
       obtain ⟨e1,e2⟩:=hin' i m pi
       obtain ⟨f1,f2⟩:=hin' j n pj
       rw [hlk_in m i g b1 h1 h2] at hi
       rw [hlk_in n j g' b2 h3 h4] at hj
       simp only [Option.some.injEq] at hi hj
       subst hi
       subst hj
       rw [e1,f1]
       refine hc.inj m n b1 b2 (by rw [hB]; exact h2) (by rw [hB]; exact h4) ki kj (by rw [← e2]; exact ci) (by rw [← f2]; exact cj) fun e=>hne ?_
       subst e
       rw [h1] at h3
       simp only [Option.some.injEq,Prod.mk.injEq] at h3
       exact h3.1
 · cases hp : pos id with
   | none =>
     obtain ⟨e1,e2⟩:=hout' id hp
     simp only at hb hcs ⊢
     rw [hlk_out id hp, ← hH] at hb
     have:=hr.nf id b hb hk (by rw [← e2]; exact hcs)
     rw [e1]
     exact ⟨by omega,this.2⟩
   | some j =>
     obtain ⟨g,b1,h1,h2⟩:=pos_some id j hp
     obtain ⟨e1,e2⟩:=hin' id j hp
     simp only at hb hcs ⊢
     rw [hlk_in j id g b1 h1 h2] at hb
     simp only [Option.some.injEq] at hb
     subst hb
     have:=hc.nf j b1 (by rw [hB]; exact h2) hk (by rw [← e2]; exact hcs)
     rw [e1]
     refine ⟨this.1,fun hf=>this.2 ?_⟩
     rw [hs.fo]
     exact .inl hf
end
end Go.Abs
namespace Go.Abs
open Go
section
mutual
def AV.refs : AV → List Nat
 | .ptr i _ _ _=>[i]
 | .sl i _ _ _=>[i]
 | .amap i _=>[i]
 | .psl i _ _ _ _=>[i]
 | .slc i _ _ _ _=>[i]
 | .agg cs=>refsL cs
 | .tup cs=>refsL cs
 | .fn _ a b=>refsL a ++ refsL b
 | .any=>[]
 | .bool _=>[]
 | .int _ _=>[]
 | .str _=>[]
 | .nilp=>[]
 | .cptr _=>[]
 | .nils=>[]
 | .list _ _=>[]
 | .nilf=>[]
 | .nilm=>[]
def refsL : List AV → List Nat
 | []=>[]
 | x :: r=>x.refs ++ refsL r
end
def refsB (b : ABlk) : List Nat := if b.inl = true ∧ b.kind ≠ 3 then [] else b.rows.flatMap refsL
def gather : Nat → List Nat → List (Nat × ABlk) → (List (Nat × ABlk) → AP AV) → AP AV
 | _,[],acc,k=>k acc
 | 0,_ :: _,_,_ => .fail
 | n + 1,i :: r,acc,k=>if acc.any (fun p=>p.1 == i) then gather n r acc k else .get i fun b=>if b.kind = 0 then .fail else gather n (r ++ refsB b) (acc ++ [(i,b)]) k
def getGens : List Nat → List Nat → (List Nat → AP AV) → AP AV
 | [],acc,k=>k acc
 | i :: r,acc,k => .get i fun old=>getGens r (acc ++ [old.gen + 1]) k
def putsA : List (Nat × ABlk) → AP AV → AP AV
 | [],k=>k
 | (i,b) :: r,k => .put i b (putsA r k)
def freshIds (base : Nat) (L : List (Nat × ABlk)) (n : Nat) : List Nat := (((List.range 16).map (base + ·)).filter fun i => L.all fun p => p.1 != i).take n
def idsOf (L : List (Nat × ABlk)) (B : List ABlk) (news gs : List Nat) : List (Nat × Nat) := (L.zip B).map (fun p => (p.1.1,p.1.2.gen + p.2.gen)) ++ news.zip gs
def callB (dst : Nat) (S : SpecFn) (args : List AV) : AP AV :=
 gather 64 (refsL args) [] fun L=>match S (renL (fF L) args) (handB L) with
   | some (r,B) =>
     if L.length ≤ B.length ∧ (freshIds (newId dst) L (B.length - L.length)).length = B.length - L.length ∧ B.all (fun b=>b.gen == 0 || b.gen == 1 && b.kind == 2) ∧ (B.drop L.length).all (fun b=>decide (2 ≤ b.kind) && b.gen == 0) then
       getGens (freshIds (newId dst) L (B.length - L.length)) [] fun gs =>
         putsA (backL (idsOf L B (freshIds (newId dst) L (B.length - L.length)) gs) B) (.ret (r.ren (backF (idsOf L B (freshIds (newId dst) L (B.length - L.length)) gs) B)))
     else .fail
   | none => .fail
def frq1 (x : AV) (k : AV → AP AV) : AP AV :=
 match x with
 | .sl id g off len => .get id fun b=>if b.inl = true then frz1 (.sl id g off len) k else k (.sl id g off len)
 | x=>k x
def frqL : List AV → (List AV → AP AV) → AP AV
 | [],k=>k []
 | x :: r,k=>frq1 x fun x'=>frqL r fun r'=>k (x' :: r')
def frqV (x : AV) (k : AV → AP AV) : AP AV :=
 match x with
 | .agg cs=>frqL cs fun cs'=>k (.agg cs')
 | x=>frq1 x k
def frqVs : List AV → (List AV → AP AV) → AP AV
 | [],k=>k []
 | x :: r,k=>frqV x fun x'=>frqVs r fun r'=>k (x' :: r')
def callX (specs : FuncId → Option Spec) (dst : Nat) (f : FuncId) (args : List AV) : AP AV :=
 match specs f with
 | some ⟨2,S⟩=>frqVs args fun args'=>callB dst S args'
 | some ⟨3,S⟩=>callB dst S args
 | _=>callA specs dst f args
theorem SndW.getD {E : Env} {H : NL ABlk} {A : ActW} {id : Nat} {k : ABlk → AP AV} (h : SndW E H (k ((lk H id).getD {})) A) : SndW E H (.get id k) A := by
 cases hb : lk H id with
 | some b=>exact SndW.get hb (by simpa [hb] using h)
 | none =>
   intro out h'
   simp only [AP.run,hb] at h'
   split at h'
   · rename_i o ho
     simp only [Option.some.injEq] at h'
     subst h'
     exact h o (by simpa [hb] using ho)
   · cases h'
def accOK (H : NL ABlk) (L : List (Nat × ABlk)) : Prop := (L.map (·.1)).Nodup ∧ ∀ p ∈ L,lk H p.1 = some p.2 ∧ p.2.kind ≠ 0
theorem gather_w {E : Env} {H : NL ABlk} {A : ActW} {k : List (Nat × ABlk) → AP AV} (hk : ∀ L,accOK H L → SndW E H (k L) A) : ∀ (n : Nat) (todo : List Nat) (acc : List (Nat × ABlk)),accOK H acc → SndW E H (gather n todo acc k) A
 | 0,[],acc,h=>by simpa only [gather] using hk acc h
 | _ + 1,[],acc,h=>by simpa only [gather] using hk acc h
 | 0,_ :: _,_,_=>by simpa only [gather] using SndW.fail
 | n + 1,i :: r,acc,h=>by
   simp only [gather]
   split
   · exact gather_w hk n r acc h
   · rename_i hn
     refine SndW.getD ?_
     split
     · exact SndW.fail
     · rename_i hz
       refine gather_w hk n _ _ ⟨?_, ?_⟩
       · rw [List.map_append,List.nodup_append]
         refine ⟨h.1,by simp,fun a ha b hb=>?_⟩
         simp only [List.map_cons,List.map_nil,List.mem_singleton] at hb
         subst hb
         rintro rfl
         apply hn
         obtain ⟨p,hp,he⟩:=List.mem_map.1 ha
         exact List.any_eq_true.2 ⟨p,hp,by simp [he]⟩
       · intro p hp
         rcases List.mem_append.1 hp with hp | hp
         · exact h.2 p hp
         · simp only [List.mem_singleton] at hp
           subst hp
           cases hb : lk H i with
           | none=>simp [hb] at hz
           | some b=>simp [hb] at hz ⊢; exact hz
theorem getGens_w {E : Env} {H : NL ABlk} {A : ActW} {k : List Nat → AP AV} : ∀ (news acc : List Nat),SndW E H (k (acc ++ news.map (genOf H))) A → SndW E H (getGens news acc k) A
 | [],acc,h=>by simpa [getGens] using h
 | i :: r,acc,h=>by
   simp only [getGens]
   refine SndW.getD (getGens_w r _ ?_)
   simpa [genOf] using h
theorem putsA_run {x : AV} : ∀ (l : List (Nat × ABlk)) (H : NL ABlk) (out : Out AV),(putsA l (.ret x)).run H = some out → out.val = x ∧ out.H = puts H l ∧ out.as = True
 | [],H,out,h=>by
   simp only [putsA,AP.run,Option.some.injEq] at h
   subst h
   exact ⟨rfl,rfl,rfl⟩
 | (i,b) :: r,H,out,h=>by
   simp only [putsA,AP.run] at h
   split at h
   · rename_i o ho
     simp only [Option.some.injEq] at h
     subst h
     exact putsA_run r _ o ho
   · cases h
theorem freshIds_nodup (base : Nat) (L : List (Nat × ABlk)) (n : Nat) : (freshIds base L n).Nodup := by
 unfold freshIds
 refine List.Nodup.sublist ((List.take_sublist _ _).trans List.filter_sublist) ?_
 unfold List.Nodup
 rw [List.pairwise_map]
 exact List.Pairwise.imp (fun h e=>by omega) List.pairwise_lt_range
theorem freshIds_out {base : Nat} {L : List (Nat × ABlk)} {n i : Nat} (h : i ∈ freshIds base L n) : ∀ p ∈ L,p.1 ≠ i := by
 unfold freshIds at h
 have:=List.mem_of_mem_take h
 simp only [List.mem_filter,List.all_eq_true,bne_iff_ne] at this
 exact this.2
theorem callB_w {P : Program} {f : FuncId} {S : SpecFn} (hf : FnC P f S) {E : Env} {H : NL ABlk} (hH : E.H = lk H) (hr : HR E) {dst : Nat} {args : List AV} {vs : Array Value} (hx : RepL E args vs.toList) :
   SndW E H (callB dst S args) (CallAct P f vs):=by
 unfold callB
 refine gather_w (fun L hL=>?_) 64 _ [] ⟨by simp,by simp⟩
 split
 · rename_i r B hS
   split
   · rename_i hc
     obtain ⟨c1,c2,c3,c4⟩:=hc
     generalize hnews : freshIds (newId dst) L (B.length - L.length) = news at c2
     refine getGens_w _ _ ?_
     simp only [List.nil_append]
     intro out ho
     obtain ⟨q1,q2,q3⟩:=putsA_run _ _ _ ho
     obtain ⟨k1,k2⟩:=hand_over hH hr hL.1 hL.2
     have hargs : RepL (envB E L) (renL (fF L) args) vs.toList:=renL_rep k2 _ _ hx
     have hcall:=hf.calls _ _ r B hS (envB E L) vs rfl k1 hargs
     refine hcall.mono fun e w' ⟨v,Ec,h1,h2,h3,h4,h5,h6⟩=>⟨v,h1,by rw [q3]; trivial, ?_⟩
     have hzip : (news.zip (news.map (genOf H))).length = news.length:=by simp
     have hmap : (news.zip (news.map (genOf H))).map (·.1) = news:=List.map_fst_zip (by simp)
     have hn1 : ∀ i ∈ news, ∀ p ∈ L,p.1 ≠ i:=fun i hi=>freshIds_out (by rw [hnews]; exact hi)
     obtain ⟨E',e1,e2,e3,e4,e5⟩:=adoptB hH hr hL.1 hL.2 h3 h4 h5 (fun j b _ hb=>by simpa using List.all_eq_true.1 c3 b (List.mem_of_getElem? hb)) (fun j b hj hb=>by
         have:=List.all_eq_true.1 c4 b (by
           refine List.mem_of_getElem? (i:=j - L.length) ?_
           rw [List.getElem?_drop]
           rw [show L.length + (j - L.length) = j from by omega]
           exact hb)
         simp only [Bool.and_eq_true,beq_iff_eq] at this
         exact this.2) (ids:=idsOf L B news (news.map (genOf H)))
       (by simp [idsOf]; omega)
       (by
         have : (idsOf L B news (news.map (genOf H))).map (·.1) = L.map (·.1) ++ news:=by
           rw [idsOf,List.map_append,hmap,List.map_map]
           congr 1
           calc List.map _ (L.zip B) = ((L.zip B).map (·.1)).map (·.1):=by rw [List.map_map]; rfl
             _ = _:=by rw [List.map_fst_zip c1]
         rw [this,List.nodup_append]
         refine ⟨hL.1,by rw [← hnews]; exact freshIds_nodup _ _ _,fun a ha b hb e=>?_⟩
         obtain ⟨p,hp,he⟩:=List.mem_map.1 ha
         exact hn1 b hb p hp (he.trans e))
       (by simp [idsOf]; omega)
       (fun j id g bj hj hi hb=>by
         simp only [idsOf] at hi
         rw [List.getElem?_append_left (by simp; omega)] at hi
         simp only [List.getElem?_map,Option.map_eq_some_iff,Prod.mk.injEq] at hi
         obtain ⟨p,hp,rfl,rfl⟩:=hi
         have hz:=List.getElem?_zip_eq_some.1 hp
         rw [hb] at hz
         obtain ⟨z1,z2⟩:=hz
         simp only [Option.some.injEq] at z2
         rw [z2]
         exact ⟨p.1.2,z1,rfl⟩)
       (fun j id g hj hi=>by
         have hlz : (L.zip B).length = L.length:=by simp; omega
         simp only [idsOf] at hi
         rw [List.getElem?_append_right (by simp; omega)] at hi
         simp only [List.length_map,hlz] at hi
         have hi2:=List.getElem?_zip_eq_some.1 hi
         obtain ⟨hi3,hi4⟩:=hi2
         refine ⟨hn1 id (List.mem_of_getElem? hi3), ?_⟩
         simp only [List.getElem?_map,hi3,Option.map_some,Option.some.injEq] at hi4
         exact hi4.symm)
       (fun j b hj hb=>by
         have:=List.all_eq_true.1 c4 b (by
           refine List.mem_of_getElem? (i:=j - L.length) ?_
           rw [List.getElem?_drop]
           rw [show L.length + (j - L.length) = j from by omega]
           exact hb)
         simp only [Bool.and_eq_true,decide_eq_true_eq,beq_iff_eq] at this; exact this.1)
     refine ⟨E',e1.trans h2, ?_,e3,e4, ?_⟩
     · rw [e2,q2]
     · rw [q1]
       exact ren_rep e5 _ _ h6
   · exact SndW.fail
 · exact SndW.fail
theorem frq1_w {E : Env} {H : NL ABlk} (hH : E.H = lk H) (hr : HR E) {x : AV} {v : Value} (hx : Rep E x v) {k : AV → AP AV} {A : ActW}
   (h : ∀ E1 H1 x',E1.w = E.w → E1.H = lk H1 → HR E1 → Step E E1 → Rep E1 x' v → SndW E1 H1 (k x') A) : SndW E H (frq1 x k) A:=by
 unfold frq1
 split
 · refine SndW.getD ?_
   split
   · exact frz1_w hH hr hx fun E1 H1 x' e1 e2 e3 e4 e5=>h E1 H1 x' e1 e2 e3 e4 e5.rep
   · exact h E H _ rfl hH hr (Step.refl E) hx
 · exact h E H _ rfl hH hr (Step.refl E) hx
theorem frqL_w : ∀ {xs : List AV} {E : Env} {H : NL ABlk} (_ : E.H = lk H) (_ : HR E) {vs : List Value} (_ : RepL E xs vs) {k : List AV → AP AV} {A : ActW}
   (_ : ∀ E1 H1 xs',E1.w = E.w → E1.H = lk H1 → HR E1 → Step E E1 → RepL E1 xs' vs → SndW E1 H1 (k xs') A),SndW E H (frqL xs k) A
 | [],E,H,hH,hr,vs,hx,k,A,h=>by
   simp only [frqL]
   exact h E H [] rfl hH hr (Step.refl E) hx
 | x :: r,E,H,hH,hr,vs,hx,k,A,h=>by
   simp only [RepL] at hx
   obtain ⟨v,vs',rfl,h1,h2⟩:=hx
   simp only [frqL]
   refine frq1_w hH hr h1 fun E1 H1 x' e1 e2 e3 e4 e5=>?_
   refine frqL_w e2 e3 (RepL.mono e4 _ _ h2) fun E2 H2 r' f1 f2 f3 f4 f5=>?_
   refine h E2 H2 (x' :: r') (f1.trans e1) f2 f3 (e4.trans f4) ?_
   simp only [RepL]
   exact ⟨v,vs',rfl,Rep.mono f4 _ _ e5,f5⟩
theorem frqV_w {E : Env} {H : NL ABlk} (hH : E.H = lk H) (hr : HR E) {x : AV} {v : Value} (hx : Rep E x v) {k : AV → AP AV} {A : ActW}
   (h : ∀ E1 H1 x',E1.w = E.w → E1.H = lk H1 → HR E1 → Step E E1 → Rep E1 x' v → SndW E1 H1 (k x') A) : SndW E H (frqV x k) A:=by
 unfold frqV
 split
 · simp only [Rep] at hx
   obtain ⟨cs,rfl,hc⟩:=hx
   refine frqL_w hH hr hc fun E1 H1 cs' e1 e2 e3 e4 e5=>h E1 H1 _ e1 e2 e3 e4 ?_
   simp only [Rep]
   exact ⟨cs,rfl,e5⟩
 · exact frq1_w hH hr hx h
theorem frqVs_w : ∀ {xs : List AV} {E : Env} {H : NL ABlk} (_ : E.H = lk H) (_ : HR E) {vs : List Value} (_ : RepL E xs vs) {k : List AV → AP AV} {A : ActW}
   (_ : ∀ E1 H1 xs',E1.w = E.w → E1.H = lk H1 → HR E1 → Step E E1 → RepL E1 xs' vs → SndW E1 H1 (k xs') A),SndW E H (frqVs xs k) A
 | [],E,H,hH,hr,vs,hx,k,A,h=>by
   simp only [frqVs]
   exact h E H [] rfl hH hr (Step.refl E) hx
 | x :: r,E,H,hH,hr,vs,hx,k,A,h=>by
   simp only [RepL] at hx
   obtain ⟨v,vs',rfl,h1,h2⟩:=hx
   simp only [frqVs]
   refine frqV_w hH hr h1 fun E1 H1 x' e1 e2 e3 e4 e5=>?_
   refine frqVs_w e2 e3 (RepL.mono e4 _ _ h2) fun E2 H2 r' f1 f2 f3 f4 f5=>?_
   refine h E2 H2 (x' :: r') (f1.trans e1) f2 f3 (e4.trans f4) ?_
   simp only [RepL]
   exact ⟨v,vs',rfl,Rep.mono f4 _ _ e5,f5⟩
theorem callX_w {P : Program} {specs : FuncId → Option Spec} (hsp : ∀ f s,specs f = some s → FnC P f s.fn) {E : Env} {H : NL ABlk} (hH : E.H = lk H) (hr : HR E) {dst : Nat} {f : FuncId} {args : List AV} {vs : Array Value} (hx : RepL E args vs.toList) :
   SndW E H (callX specs dst f args) (CallAct P f vs):=by
 unfold callX
 split
 · rename_i S hs
   refine frqVs_w hH hr hx fun E1 H1 args' e1 e2 e3 e4 e5=>?_
   exact callB_w (hsp f _ hs) e2 e3 e5
 · rename_i S hs
   exact callB_w (hsp f _ hs) hH hr hx
 · exact call_w hsp hH hr hx
end
section
structure AS where
 n : Nat
 tmps : NL AV
 heap : NL ABlk
def AS.ev (σ : AS) : Operand → AV
 | .tmp t=>(lk σ.tmps t).getD .any
 | .const v=>ofValue v
 | .func f => .fn (.func f) [] []
 | .global _ => .any
structure SR (σ : AS) (a : Act) (E : Env) : Prop where
 heap : E.H = lk σ.heap
 hr : HR E
 defers : a.defers = []
 size : a.tmps.size = σ.n
 tmps : ∀ t x,lk σ.tmps t = some x → ∃ v,a.tmps[t]? = some v ∧ Rep E x v
theorem SR.ev {σ : AS} {a : Act} {E : Env} (h : SR σ a E) (x : Operand) : Rep E (σ.ev x) (a.eval x) := by
 cases x with
 | tmp t =>
   simp only [AS.ev,Act.eval]
   cases hl : lk σ.tmps t with
   | none=>trivial
   | some x =>
     obtain ⟨v,hv,hx⟩:=h.tmps t x hl
     simpa [Array.getD_eq_getD_getElem?,hv] using hx
 | const v=>exact (ofValue_rep v).rep
 | global g=>trivial
 | func f =>
   simp only [AS.ev,Act.eval,Rep]
   exact ⟨#[], #[],rfl,by simp [RepL],by simp [RepL]⟩
def opC (P : Program) (specs : FuncId → Option Spec) (ρ : Operand → AV) (dst : Nat) (op : Op) : AP AV :=
 match op with
 | .call c=>match c.callee with
   | .value fx=>match ρ fx with
     | .fn (.func f) first caps=>match specs f with
       | some _=>callX specs dst f (first ++ c.args.toList.map ρ ++ caps)
       | none=>extA P f (first ++ c.args.toList.map ρ ++ caps)
     | _ => .fail
   | .builtin b=>builtinA P dst b c.argTypes.toList (c.args.toList.map ρ)
   | _ => .fail
 | op=>opA P ρ dst op
structure FP where
 rd : List Nat
 wr : List Nat
 as : Prop
def putA (σ : AS) (dst : Option Nat) (x : AV) : Option (NL AV) :=
 match dst with
 | none=>some σ.tmps
 | some d=>if d < σ.n then some ((d,x) :: σ.tmps) else none
def execA (P : Program) (specs : FuncId → Option Spec) (kk : Nat) (σ : AS) (o : Oper) : Option (AS × FP) :=
 match (opC P specs σ.ev (o.dst.getD 0 + kk) o.op).run σ.heap with
 | some out=>match putA σ o.dst out.val with
   | some ts=>some ({ σ with tmps:=ts,heap:=out.H },⟨out.rd,out.wr,out.as⟩)
   | none=>none
 | none=>none
def skipA (σ : AS) (o : Oper) : Option (AS × FP) :=
 match putA σ o.dst (.tup []) with
 | some ts=>some ({ σ with tmps:=ts },⟨[],[],True⟩)
 | none=>none
def gdst (ops : Array Oper) (j : Nat) : Option Nat := (ops[j]?).bind (·.dst)
def stepA (P : Program) (specs : FuncId → Option Spec) (kk : Nat) (ops : Array Oper) (σ : AS) (o : Oper) : Option (AS × FP) :=
 match o.guard with
 | none=>execA P specs kk σ o
 | some (j,want)=>match gdst ops j with
   | some d=>match lk σ.tmps d with
     | some (.bool b)=>if b = want then execA P specs kk σ o else skipA σ o
     | some (.tup _)=>skipA σ o
     | _=>none
   | none=>none
theorem SR.put {σ : AS} {a : Act} {E E' : Env} {H : NL ABlk} (h : SR σ a E) (s : Step E E') (hH : E'.H = lk H) (hr : HR E') {dst : Option Nat} {x : AV} {v : Value} {ts : NL AV} (hp : putA σ dst x = some ts) (hx : Rep E' x v) :
   SR { σ with tmps:=ts,heap:=H } (a.put dst v) E':=by
 cases dst with
 | none =>
   simp only [putA,Option.some.injEq] at hp
   subst hp
   exact ⟨hH,hr,h.defers,h.size,fun t x ht=>by
     obtain ⟨v,hv,hxv⟩:=h.tmps t x ht
     exact ⟨v,hv,Rep.mono s _ _ hxv⟩⟩
 | some d =>
   simp only [putA] at hp
   split at hp
   · rename_i hd
     simp only [Option.some.injEq] at hp
     subst hp
     refine ⟨hH,hr,h.defers,by simp [Act.put,h.size],fun t y ht=>?_⟩
     simp only [lk] at ht
     split at ht
     · rename_i e
       subst e
       simp only [Option.some.injEq] at ht
       subst ht
       exact ⟨v,by simp [Act.put,h.size,hd],hx⟩
     · rename_i e
       obtain ⟨u,hu,hyu⟩:=h.tmps t y ht
       exact ⟨u,by simp [Act.put,e,hu],Rep.mono s _ _ hyu⟩
   · cases hp
theorem opC_wp {P : Program} {specs : FuncId → Option Spec} (hsp : ∀ f s,specs f = some s → FnC P f s.fn) {σ : AS} {a : Act} {E : Env} (h : SR σ a E) {o : Oper} {dst : Nat} {out : Out AV} (ho : (opC P specs σ.ev dst o.op).run σ.heap = some out)
   {next : Act → World → Prop} {Q : Exit → Act → World → Prop} (hn : out.as → ∀ v E',E'.H = lk out.H → HR E' → Step E E' → Rep E' out.val v → next (a.put o.dst v) E'.w) : o.wp P a E.w next Q:=by
 have plain : (opA P σ.ev dst o.op).run σ.heap = some out → o.wp P a E.w next Q:=fun ho=>by
   obtain ⟨v,E',n,h1,h2,h3,h4,h5,h6,h7⟩:=op_snd h.heap h.hr (ρA := σ.ev) (ρ:=a.eval) (o:=o) (dst:=dst) h.ev out ho
   unfold Oper.wp
   rw [h1]
   rcases h2 with rfl | ⟨rfl,rfl⟩
   · exact hn h7 v E' h3 h4 h5 h6
   · exact hn h7 undef E' h3 h4 h5 h6
 obtain ⟨d,op,type,pos,after,guard⟩:=o
 cases op with
 | call c =>
   obtain ⟨callee,args,ts⟩:=c
   cases callee with
   | value fx =>
     simp only [opC] at ho
     have hfx:=h.ev fx
     split at ho
     · rename_i f first caps e
       rw [e] at hfx
       simp only [Rep] at hfx
       obtain ⟨fs,cs,hv,h1,h2⟩:=hfx
       have hargs : RepL E (args.toList.map σ.ev) (args.map a.eval).toList:=RepL.of_get (by simp) fun i x hi=>by
         simp only [List.getElem?_map,Option.map_eq_some_iff] at hi
         obtain ⟨p,hp,rfl⟩:=hi
         exact ⟨a.eval p,by rw [Array.toList_map,List.getElem?_map,hp]; rfl,h.ev p⟩
       have happ : ∀ {xs ys : List AV} {us vs : List Value},RepL E xs us → RepL E ys vs → RepL E (xs ++ ys) (us ++ vs):=fun {xs ys us vs} h1 h2=>by
         have l1:=h1.length
         refine RepL.of_get (by simp [l1,h2.length]) fun i x hi=>?_
         rw [List.getElem?_append] at hi ⊢
         rw [l1]
         split at hi
         · rename_i q; rw [if_pos q]; exact h1.get hi
         · rename_i q; rw [if_neg q]; exact h2.get hi
       have hall : RepL E (first ++ args.toList.map σ.ev ++ caps) (fs ++ args.map a.eval ++ cs).toList:=by
         simp only [Array.toList_append]
         exact happ (happ h1 hargs) h2
       cases hs : specs f with
       | none =>
         simp only [hs] at ho
         obtain ⟨v,r1,r2,r3,r4⟩:=ext_snd h.heap h.hr hall ho
         have hrun : (execOp a.eval { dst:=d,op := .call { callee := .value fx,args,argTypes:=ts },type,pos,after,guard }).run P E.w = .ok (.value v) E.w:=by
           rw [Array.append_assoc] at r1
           simp [execOp,resolve,Deferred.ofValue,hv,invoke,r1]
         unfold Oper.wp
         rw [hrun]
         exact hn r4 v E r2 h.hr (Step.refl E) r3
       | some s =>
       simp only [hs] at ho
       have hw:=callX_w hsp h.heap h.hr (dst:=dst) (f:=f) hall out ho
       obtain ⟨fn,g1,g2,g3⟩:=(hsp f s hs).fn
       have hrun : (execOp a.eval { dst:=d,op := .call { callee := .value fx,args,argTypes:=ts },type,pos,after,guard }).run P E.w = .ok (.enter f (fs ++ args.map a.eval ++ cs)) E.w:=by
         have g2' : ¬ fn.name = "runtime.NumGoroutine" := by simpa using g2
         have g3' : ¬ fn.body = none:=by intro e; simp [e] at g3
         simp [execOp,resolve,Deferred.ofValue,hv,invoke,callFunc,g1,g2',g3']
       unfold Oper.wp
       rw [hrun]
       show Calls P f _ E.w _
       refine Calls.mono hw fun e w'=>?_
       rintro ⟨v,rfl,has,E',rfl,q1,q2,q3,q4⟩
       exact hn has v E' q1 q2 q3 q4
     · simp [AP.run] at ho
   | builtin b=>exact plain ho
   | invoke r m=>simp [opC,AP.run] at ho
 | _=>exact plain ho
theorem step_wp {P : Program} {specs : FuncId → Option Spec} {kk : Nat} (hsp : ∀ f s,specs f = some s → FnC P f s.fn) {ops : Array Oper} {σ σ' : AS} {a : Act} {E : Env} (h : SR σ a E) {o : Oper} {fp : FP} (hs : stepA P specs kk ops σ o = some (σ',fp))
   {next : Act → World → Prop} {Q : Exit → Act → World → Prop} (hn : fp.as → ∀ a' E',SR σ' a' E' → Step E E' → next a' E'.w) :
   if Region.wanted o (yielded ops a.tmps) then o.wp P a E.w next Q ∨ (o.asks P a E.w ∧ LetsOut Q) else next (a.put o.dst undef) E.w:=by
 have exec : execA P specs kk σ o = some (σ',fp) → o.wp P a E.w next Q:=fun he=>by
   unfold execA at he
   split at he
   · rename_i out ho
     split at he
     · rename_i ts hts
       simp only [Option.some.injEq,Prod.mk.injEq] at he
       obtain ⟨rfl,rfl⟩:=he
       exact opC_wp hsp h ho fun has v E' h1 h2 h3 h4=>hn has _ E' (h.put h3 h1 h2 hts h4) h3
     · cases he
   · cases he
 have skip : skipA σ o = some (σ',fp) → next (a.put o.dst undef) E.w:=fun he=>by
   unfold skipA at he
   split at he
   · rename_i ts hts
     simp only [Option.some.injEq,Prod.mk.injEq] at he
     obtain ⟨rfl,rfl⟩:=he
     exact hn trivial _ E (h.put (Step.refl E) h.heap h.hr hts (by simp only [Rep]; exact ⟨#[],rfl,rfl⟩)) (Step.refl E)
   · cases he
 unfold stepA at hs
 split at hs
 · rename_i hg
   have hw : Region.wanted o (yielded ops a.tmps) = true:=by simp [Region.wanted,hg]
   rw [if_pos hw]
   exact .inl (exec hs)
 · rename_i j want hg
   split at hs
   · rename_i d hd
     split at hs
     · rename_i b hb
       obtain ⟨v,hv,hx⟩:=h.tmps d _ hb
       simp only [Rep] at hx
       subst hx
       have hy : yielded ops a.tmps j = some b:=by
         unfold gdst at hd
         simp [yielded,hd,hv]
       split at hs
       · rename_i e
         have hw : Region.wanted o (yielded ops a.tmps) = true:=by simp [Region.wanted,hg,hy,e]
         rw [if_pos hw]
         exact .inl (exec hs)
       · rename_i e
         have hw : ¬ Region.wanted o (yielded ops a.tmps) = true:=by simp [Region.wanted,hg,hy,e]
         rw [if_neg hw]
         exact skip hs
     · rename_i b hb
       obtain ⟨v,hv,hx⟩:=h.tmps d _ hb
       simp only [Rep] at hx
       obtain ⟨cs,rfl,_⟩:=hx
       have hy : yielded ops a.tmps j = none:=by
         unfold gdst at hd
         simp [yielded,hd,hv]
       have hw : ¬ Region.wanted o (yielded ops a.tmps) = true:=by simp [Region.wanted,hg,hy]
       rw [if_neg hw]
       exact skip hs
     · cases hs
   · cases hs
def runL (P : Program) (specs : FuncId → Option Spec) (kk : Nat) (ops : Array Oper) : List Oper → AS → Option (AS × Prop)
 | [], σ=>some (σ,True)
 | o :: r, σ=>match stepA P specs kk ops σ o with
   | some (σ',fp)=>match runL P specs kk ops r σ' with
     | some (σ'',A)=>some (σ'',fp.as ∧ A)
     | none=>none
   | none=>none
theorem runL_wp {P : Program} {specs : FuncId → Option Spec} {kk : Nat} (hsp : ∀ f s,specs f = some s → FnC P f s.fn) {ops : Array Oper} {Q : Exit → Act → World → Prop} : ∀ (l : List Oper) (k : Nat),(∀ j,l[j]? = ops[k + j]?) → ∀ {σ σ' : AS} {A : Prop} {a : Act} {E : Env},SR σ a E → runL P specs kk ops l σ = some (σ',A) →
   (A → ∀ a' E',SR σ' a' E' → Step E E' → Q .normal a' E'.w) → wpOps P ops Q (List.range' k l.length) a E.w
 | [],k,_, σ, σ',A,a,E,h,hr,hq=>by
   simp only [runL,Option.some.injEq,Prod.mk.injEq] at hr
   obtain ⟨rfl,rfl⟩:=hr
   exact hq trivial a E h (Step.refl E)
 | o :: r,k,hl, σ, σ',A,a,E,h,hr,hq=>by
   simp only [runL] at hr
   split at hr
   · rename_i σ1 fp hs
     split at hr
     · rename_i σ2 A2 hr2
       simp only [Option.some.injEq,Prod.mk.injEq] at hr
       obtain ⟨rfl,rfl⟩:=hr
       have ho : ops[k]? = some o:=by have:=hl 0; simpa using this.symm
       rw [List.length_cons,List.range'_succ]
       simp only [wpOps,ho]
       exact step_wp hsp h hs fun has a' E' h1 h2=>runL_wp hsp r (k + 1) (fun j=>by have:=hl (j + 1); simpa [Nat.add_comm,Nat.add_left_comm,Nat.add_assoc] using this) h1 hr2 fun hA a'' E'' h3 h4=>hq ⟨has,hA⟩ a'' E'' h3 (h2.trans h4)
     · cases hr
   · cases hr
theorem region_wp {P : Program} {specs : FuncId → Option Spec} {kk : Nat} (hsp : ∀ f s,specs f = some s → FnC P f s.fn) {ops : Array Oper} {Q : Exit → Act → World → Prop} {id : Nat} {σ σ' : AS} {A : Prop} {a : Act} {E : Env} (h : SR σ a E) (hr : runL P specs kk ops ops.toList σ = some (σ',A))
   (hq : A → ∀ a' E',SR σ' a' E' → Step E E' → Q .normal a' E'.w) : (Code.region id ops false).wp P Q a E.w:=by
 refine wp_region ?_
 have:=runL_wp hsp (Q:=Q) ops.toList 0 (fun j=>by simp) h hr hq
 rw [List.range_eq_range']
 simpa using this
end
end Go.Abs
