/- Calls that are handed blocks. Conditions: none. -/
import Derived.Test.YtphclapfniepoaaGreatAb4
import Derived.LoopN
import Derived.Scope
namespace Go.Abs
open Go
section
mutual
def AV.refs : AV → List Nat
 | .ptr i _ _ _=>[i]
 | .sl i _ _ _=>[i]
 | .amap i _=>[i]
 | .psl i _ _ _ _=>[i]
 | .slc i _ _ _ _=>[i]
 | .agg cs=>refsL cs
 | .tup cs=>refsL cs
 | .fn _ a b=>refsL a ++ refsL b
 | .any=>[]
 | .bool _=>[]
 | .int _ _=>[]
 | .str _=>[]
 | .nilp=>[]
 | .cptr _=>[]
 | .nils=>[]
 | .list _ _=>[]
 | .nilf=>[]
 | .nilm=>[]
def refsL : List AV → List Nat
 | []=>[]
 | x :: r=>x.refs ++ refsL r
end
def refsB (b : ABlk) : List Nat := if b.inl = true ∧ b.kind ≠ 3 then [] else b.rows.flatMap refsL
def gather : Nat → List Nat → List (Nat × ABlk) → (List (Nat × ABlk) → AP AV) → AP AV
 | _,[],acc,k=>k acc
 | 0,_ :: _,_,_ => .fail
 | n + 1,i :: r,acc,k=>if acc.any (fun p=>p.1 == i) then gather n r acc k else .get i fun b=>if b.kind = 0 then .fail else gather n (r ++ refsB b) (acc ++ [(i,b)]) k
def getGens : List Nat → List Nat → (List Nat → AP AV) → AP AV
 | [],acc,k=>k acc
 | i :: r,acc,k => .get i fun old=>getGens r (acc ++ [old.gen + 1]) k
def putsA : List (Nat × ABlk) → AP AV → AP AV
 | [],k=>k
 | (i,b) :: r,k => .put i b (putsA r k)
def freshIds (base : Nat) (L : List (Nat × ABlk)) (n : Nat) : List Nat := (((List.range 16).map (base + ·)).filter fun i => L.all fun p => p.1 != i).take n
def idsOf (L : List (Nat × ABlk)) (B : List ABlk) (news gs : List Nat) : List (Nat × Nat) := (L.zip B).map (fun p => (p.1.1,p.1.2.gen + p.2.gen)) ++ news.zip gs
def callB (dst : Nat) (S : SpecFn) (args : List AV) : AP AV :=
 gather 64 (refsL args) [] fun L=>match S (renL (fF L) args) (handB L) with
   | some (r,B) =>
     if L.length ≤ B.length ∧ (freshIds (newId dst) L (B.length - L.length)).length = B.length - L.length ∧ B.all (fun b=>b.gen == 0 || b.gen == 1 && b.kind == 2) ∧ (B.drop L.length).all (fun b=>decide (2 ≤ b.kind) && b.gen == 0) then
       getGens (freshIds (newId dst) L (B.length - L.length)) [] fun gs =>
         putsA (backL (idsOf L B (freshIds (newId dst) L (B.length - L.length)) gs) B) (.ret (r.ren (backF (idsOf L B (freshIds (newId dst) L (B.length - L.length)) gs) B)))
     else .fail
   | none => .fail
def frq1 (x : AV) (k : AV → AP AV) : AP AV :=
 match x with
 | .sl id g off len => .get id fun b=>if b.inl = true then frz1 (.sl id g off len) k else k (.sl id g off len)
 | x=>k x
def frqL : List AV → (List AV → AP AV) → AP AV
 | [],k=>k []
 | x :: r,k=>frq1 x fun x'=>frqL r fun r'=>k (x' :: r')
def frqV (x : AV) (k : AV → AP AV) : AP AV :=
 match x with
 | .agg cs=>frqL cs fun cs'=>k (.agg cs')
 | x=>frq1 x k
def frqVs : List AV → (List AV → AP AV) → AP AV
 | [],k=>k []
 | x :: r,k=>frqV x fun x'=>frqVs r fun r'=>k (x' :: r')
def callX (specs : FuncId → Option Spec) (dst : Nat) (f : FuncId) (args : List AV) : AP AV :=
 match specs f with
 | some ⟨2,S⟩=>frqVs args fun args'=>callB dst S args'
 | some ⟨3,S⟩=>callB dst S args
 | _=>callA specs dst f args
theorem SndW.getD {E : Env} {H : NL ABlk} {A : ActW} {id : Nat} {k : ABlk → AP AV} (h : SndW E H (k ((lk H id).getD {})) A) : SndW E H (.get id k) A := by
 cases hb : lk H id with
 | some b=>exact SndW.get hb (by simpa [hb] using h)
 | none =>
   intro out h'
   simp only [AP.run,hb] at h'
   split at h'
   · rename_i o ho
     simp only [Option.some.injEq] at h'
     subst h'
     exact h o (by simpa [hb] using ho)
   · cases h'
def accOK (H : NL ABlk) (L : List (Nat × ABlk)) : Prop := (L.map (·.1)).Nodup ∧ ∀ p ∈ L,lk H p.1 = some p.2 ∧ p.2.kind ≠ 0
theorem gather_w {E : Env} {H : NL ABlk} {A : ActW} {k : List (Nat × ABlk) → AP AV} (hk : ∀ L,accOK H L → SndW E H (k L) A) : ∀ (n : Nat) (todo : List Nat) (acc : List (Nat × ABlk)),accOK H acc → SndW E H (gather n todo acc k) A
 | 0,[],acc,h=>by simpa only [gather] using hk acc h
 | _ + 1,[],acc,h=>by simpa only [gather] using hk acc h
 | 0,_ :: _,_,_=>by simpa only [gather] using SndW.fail
 | n + 1,i :: r,acc,h=>by
   simp only [gather]
   split
   · exact gather_w hk n r acc h
   · rename_i hn
     refine SndW.getD ?_
     split
     · exact SndW.fail
     · rename_i hz
       refine gather_w hk n _ _ ⟨?_, ?_⟩
       · rw [List.map_append,List.nodup_append]
         refine ⟨h.1,by simp,fun a ha b hb=>?_⟩
         simp only [List.map_cons,List.map_nil,List.mem_singleton] at hb
         subst hb
         rintro rfl
         apply hn
         obtain ⟨p,hp,he⟩:=List.mem_map.1 ha
         exact List.any_eq_true.2 ⟨p,hp,by simp [he]⟩
       · intro p hp
         rcases List.mem_append.1 hp with hp | hp
         · exact h.2 p hp
         · simp only [List.mem_singleton] at hp
           subst hp
           cases hb : lk H i with
           | none=>simp [hb] at hz
           | some b=>simp [hb] at hz ⊢; exact hz
theorem getGens_w {E : Env} {H : NL ABlk} {A : ActW} {k : List Nat → AP AV} : ∀ (news acc : List Nat),SndW E H (k (acc ++ news.map (genOf H))) A → SndW E H (getGens news acc k) A
 | [],acc,h=>by simpa [getGens] using h
 | i :: r,acc,h=>by
   simp only [getGens]
   refine SndW.getD (getGens_w r _ ?_)
   simpa [genOf] using h
theorem putsA_run {x : AV} : ∀ (l : List (Nat × ABlk)) (H : NL ABlk) (out : Out AV),(putsA l (.ret x)).run H = some out → out.val = x ∧ out.H = puts H l ∧ out.as = True
 | [],H,out,h=>by
   simp only [putsA,AP.run,Option.some.injEq] at h
   subst h
   exact ⟨rfl,rfl,rfl⟩
 | (i,b) :: r,H,out,h=>by
   simp only [putsA,AP.run] at h
   split at h
   · rename_i o ho
     simp only [Option.some.injEq] at h
     subst h
     exact putsA_run r _ o ho
   · cases h
theorem freshIds_nodup (base : Nat) (L : List (Nat × ABlk)) (n : Nat) : (freshIds base L n).Nodup := by
 unfold freshIds
 refine List.Nodup.sublist ((List.take_sublist _ _).trans List.filter_sublist) ?_
 unfold List.Nodup
 rw [List.pairwise_map]
 exact List.Pairwise.imp (fun h e=>by omega) List.pairwise_lt_range
theorem freshIds_out {base : Nat} {L : List (Nat × ABlk)} {n i : Nat} (h : i ∈ freshIds base L n) : ∀ p ∈ L,p.1 ≠ i := by
 unfold freshIds at h
 have:=List.mem_of_mem_take h
 simp only [List.mem_filter,List.all_eq_true,bne_iff_ne] at this
 exact this.2
theorem callB_w {P : Program} {f : FuncId} {S : SpecFn} (hf : FnC P f S) {E : Env} {H : NL ABlk} (hH : E.H = lk H) (hr : HR E) {dst : Nat} {args : List AV} {vs : Array Value} (hx : RepL E args vs.toList) :
   SndW E H (callB dst S args) (CallAct P f vs):=by
 unfold callB
 refine gather_w (fun L hL=>?_) 64 _ [] ⟨by simp,by simp⟩
 split
 · rename_i r B hS
   split
   · rename_i hc
     obtain ⟨c1,c2,c3,c4⟩:=hc
     generalize hnews : freshIds (newId dst) L (B.length - L.length) = news at c2
     refine getGens_w _ _ ?_
     simp only [List.nil_append]
     intro out ho
     obtain ⟨q1,q2,q3⟩:=putsA_run _ _ _ ho
     obtain ⟨k1,k2⟩:=hand_over hH hr hL.1 hL.2
     have hargs : RepL (envB E L) (renL (fF L) args) vs.toList:=renL_rep k2 _ _ hx
     have hcall:=hf.calls _ _ r B hS (envB E L) vs rfl k1 hargs
     refine hcall.mono fun e w' ⟨v,Ec,h1,h2,h3,h4,h5,h6⟩=>⟨v,h1,by rw [q3]; trivial, ?_⟩
     have hzip : (news.zip (news.map (genOf H))).length = news.length:=by simp
     have hmap : (news.zip (news.map (genOf H))).map (·.1) = news:=List.map_fst_zip (by simp)
     have hn1 : ∀ i ∈ news, ∀ p ∈ L,p.1 ≠ i:=fun i hi=>freshIds_out (by rw [hnews]; exact hi)
     obtain ⟨E',e1,e2,e3,e4,e5⟩:=adoptB hH hr hL.1 hL.2 h3 h4 h5 (fun j b _ hb=>by simpa using List.all_eq_true.1 c3 b (List.mem_of_getElem? hb)) (fun j b hj hb=>by
         have:=List.all_eq_true.1 c4 b (by
           refine List.mem_of_getElem? (i:=j - L.length) ?_
           rw [List.getElem?_drop]
           rw [show L.length + (j - L.length) = j from by omega]
           exact hb)
         simp only [Bool.and_eq_true,beq_iff_eq] at this
         exact this.2) (ids:=idsOf L B news (news.map (genOf H)))
       (by simp [idsOf]; omega)
       (by
         have : (idsOf L B news (news.map (genOf H))).map (·.1) = L.map (·.1) ++ news:=by
           rw [idsOf,List.map_append,hmap,List.map_map]
           congr 1
           calc List.map _ (L.zip B) = ((L.zip B).map (·.1)).map (·.1):=by rw [List.map_map]; rfl
             _ = _:=by rw [List.map_fst_zip c1]
         rw [this,List.nodup_append]
         refine ⟨hL.1,by rw [← hnews]; exact freshIds_nodup _ _ _,fun a ha b hb e=>?_⟩
         obtain ⟨p,hp,he⟩:=List.mem_map.1 ha
         exact hn1 b hb p hp (he.trans e))
       (by simp [idsOf]; omega)
       (fun j id g bj hj hi hb=>by
         simp only [idsOf] at hi
         rw [List.getElem?_append_left (by simp; omega)] at hi
         simp only [List.getElem?_map,Option.map_eq_some_iff,Prod.mk.injEq] at hi
         obtain ⟨p,hp,rfl,rfl⟩:=hi
         have hz:=List.getElem?_zip_eq_some.1 hp
         rw [hb] at hz
         obtain ⟨z1,z2⟩:=hz
         simp only [Option.some.injEq] at z2
         rw [z2]
         exact ⟨p.1.2,z1,rfl⟩)
       (fun j id g hj hi=>by
         have hlz : (L.zip B).length = L.length:=by simp; omega
         simp only [idsOf] at hi
         rw [List.getElem?_append_right (by simp; omega)] at hi
         simp only [List.length_map,hlz] at hi
         have hi2:=List.getElem?_zip_eq_some.1 hi
         obtain ⟨hi3,hi4⟩:=hi2
         refine ⟨hn1 id (List.mem_of_getElem? hi3), ?_⟩
         simp only [List.getElem?_map,hi3,Option.map_some,Option.some.injEq] at hi4
         exact hi4.symm)
       (fun j b hj hb=>by
         have:=List.all_eq_true.1 c4 b (by
           refine List.mem_of_getElem? (i:=j - L.length) ?_
           rw [List.getElem?_drop]
           rw [show L.length + (j - L.length) = j from by omega]
           exact hb)
         simp only [Bool.and_eq_true,decide_eq_true_eq,beq_iff_eq] at this; exact this.1)
     refine ⟨E',e1.trans h2, ?_,e3,e4, ?_⟩
     · rw [e2,q2]
     · rw [q1]
       exact ren_rep e5 _ _ h6
   · exact SndW.fail
 · exact SndW.fail
theorem frq1_w {E : Env} {H : NL ABlk} (hH : E.H = lk H) (hr : HR E) {x : AV} {v : Value} (hx : Rep E x v) {k : AV → AP AV} {A : ActW}
   (h : ∀ E1 H1 x',E1.w = E.w → E1.H = lk H1 → HR E1 → Step E E1 → Rep E1 x' v → SndW E1 H1 (k x') A) : SndW E H (frq1 x k) A:=by
 unfold frq1
 split
 · refine SndW.getD ?_
   split
   · exact frz1_w hH hr hx fun E1 H1 x' e1 e2 e3 e4 e5=>h E1 H1 x' e1 e2 e3 e4 e5.rep
   · exact h E H _ rfl hH hr (Step.refl E) hx
 · exact h E H _ rfl hH hr (Step.refl E) hx
theorem frqL_w : ∀ {xs : List AV} {E : Env} {H : NL ABlk} (_ : E.H = lk H) (_ : HR E) {vs : List Value} (_ : RepL E xs vs) {k : List AV → AP AV} {A : ActW}
   (_ : ∀ E1 H1 xs',E1.w = E.w → E1.H = lk H1 → HR E1 → Step E E1 → RepL E1 xs' vs → SndW E1 H1 (k xs') A),SndW E H (frqL xs k) A
 | [],E,H,hH,hr,vs,hx,k,A,h=>by
   simp only [frqL]
   exact h E H [] rfl hH hr (Step.refl E) hx
 | x :: r,E,H,hH,hr,vs,hx,k,A,h=>by
   simp only [RepL] at hx
   obtain ⟨v,vs',rfl,h1,h2⟩:=hx
   simp only [frqL]
   refine frq1_w hH hr h1 fun E1 H1 x' e1 e2 e3 e4 e5=>?_
   refine frqL_w e2 e3 (RepL.mono e4 _ _ h2) fun E2 H2 r' f1 f2 f3 f4 f5=>?_
   refine h E2 H2 (x' :: r') (f1.trans e1) f2 f3 (e4.trans f4) ?_
   simp only [RepL]
   exact ⟨v,vs',rfl,Rep.mono f4 _ _ e5,f5⟩
theorem frqV_w {E : Env} {H : NL ABlk} (hH : E.H = lk H) (hr : HR E) {x : AV} {v : Value} (hx : Rep E x v) {k : AV → AP AV} {A : ActW}
   (h : ∀ E1 H1 x',E1.w = E.w → E1.H = lk H1 → HR E1 → Step E E1 → Rep E1 x' v → SndW E1 H1 (k x') A) : SndW E H (frqV x k) A:=by
 unfold frqV
 split
 · simp only [Rep] at hx
   obtain ⟨cs,rfl,hc⟩:=hx
   refine frqL_w hH hr hc fun E1 H1 cs' e1 e2 e3 e4 e5=>h E1 H1 _ e1 e2 e3 e4 ?_
   simp only [Rep]
   exact ⟨cs,rfl,e5⟩
 · exact frq1_w hH hr hx h
theorem frqVs_w : ∀ {xs : List AV} {E : Env} {H : NL ABlk} (_ : E.H = lk H) (_ : HR E) {vs : List Value} (_ : RepL E xs vs) {k : List AV → AP AV} {A : ActW}
   (_ : ∀ E1 H1 xs',E1.w = E.w → E1.H = lk H1 → HR E1 → Step E E1 → RepL E1 xs' vs → SndW E1 H1 (k xs') A),SndW E H (frqVs xs k) A
 | [],E,H,hH,hr,vs,hx,k,A,h=>by
   simp only [frqVs]
   exact h E H [] rfl hH hr (Step.refl E) hx
 | x :: r,E,H,hH,hr,vs,hx,k,A,h=>by
   simp only [RepL] at hx
   obtain ⟨v,vs',rfl,h1,h2⟩:=hx
   simp only [frqVs]
   refine frqV_w hH hr h1 fun E1 H1 x' e1 e2 e3 e4 e5=>?_
   refine frqVs_w e2 e3 (RepL.mono e4 _ _ h2) fun E2 H2 r' f1 f2 f3 f4 f5=>?_
   refine h E2 H2 (x' :: r') (f1.trans e1) f2 f3 (e4.trans f4) ?_
   simp only [RepL]
   exact ⟨v,vs',rfl,Rep.mono f4 _ _ e5,f5⟩
theorem callX_w {P : Program} {specs : FuncId → Option Spec} (hsp : ∀ f s,specs f = some s → FnC P f s.fn) {E : Env} {H : NL ABlk} (hH : E.H = lk H) (hr : HR E) {dst : Nat} {f : FuncId} {args : List AV} {vs : Array Value} (hx : RepL E args vs.toList) :
   SndW E H (callX specs dst f args) (CallAct P f vs):=by
 unfold callX
 split
 · rename_i S hs
   refine frqVs_w hH hr hx fun E1 H1 args' e1 e2 e3 e4 e5=>?_
   exact callB_w (hsp f _ hs) e2 e3 e5
 · rename_i S hs
   exact callB_w (hsp f _ hs) hH hr hx
 · exact call_w hsp hH hr hx
end
section
structure AS where
 n : Nat
 tmps : NL AV
 heap : NL ABlk
def AS.ev (σ : AS) : Operand → AV
 | .tmp t=>(lk σ.tmps t).getD .any
 | .const v=>ofValue v
 | .func f => .fn (.func f) [] []
 | .global _ => .any
structure SR (σ : AS) (a : Act) (E : Env) : Prop where
 heap : E.H = lk σ.heap
 hr : HR E
 defers : a.defers = []
 size : a.tmps.size = σ.n
 tmps : ∀ t x,lk σ.tmps t = some x → ∃ v,a.tmps[t]? = some v ∧ Rep E x v
theorem SR.ev {σ : AS} {a : Act} {E : Env} (h : SR σ a E) (x : Operand) : Rep E (σ.ev x) (a.eval x) := by
 cases x with
 | tmp t =>
   simp only [AS.ev,Act.eval]
   cases hl : lk σ.tmps t with
   | none=>trivial
   | some x =>
     obtain ⟨v,hv,hx⟩:=h.tmps t x hl
     simpa [Array.getD_eq_getD_getElem?,hv] using hx
 | const v=>exact (ofValue_rep v).rep
 | global g=>trivial
 | func f =>
   simp only [AS.ev,Act.eval,Rep]
   exact ⟨#[], #[],rfl,by simp [RepL],by simp [RepL]⟩
def opC (P : Program) (specs : FuncId → Option Spec) (ρ : Operand → AV) (dst : Nat) (op : Op) : AP AV :=
 match op with
 | .call c=>match c.callee with
   | .value fx=>match ρ fx with
     | .fn (.func f) first caps=>match specs f with
       | some _=>callX specs dst f (first ++ c.args.toList.map ρ ++ caps)
       | none=>extA P f (first ++ c.args.toList.map ρ ++ caps)
     | _ => .fail
   | .builtin b=>builtinA P dst b c.argTypes.toList (c.args.toList.map ρ)
   | _ => .fail
 | op=>opA P ρ dst op
structure FP where
 rd : List Nat
 wr : List Nat
 as : Prop
def putA (σ : AS) (dst : Option Nat) (x : AV) : Option (NL AV) :=
 match dst with
 | none=>some σ.tmps
 | some d=>if d < σ.n then some ((d,x) :: σ.tmps) else none
def execA (P : Program) (specs : FuncId → Option Spec) (kk : Nat) (σ : AS) (o : Oper) : Option (AS × FP) :=
 match (opC P specs σ.ev (o.dst.getD 0 + kk) o.op).run σ.heap with
 | some out=>match putA σ o.dst out.val with
   | some ts=>some ({ σ with tmps:=ts,heap:=out.H },⟨out.rd,out.wr,out.as⟩)
   | none=>none
 | none=>none
def skipA (σ : AS) (o : Oper) : Option (AS × FP) :=
 match putA σ o.dst (.tup []) with
 | some ts=>some ({ σ with tmps:=ts },⟨[],[],True⟩)
 | none=>none
def gdst (ops : Array Oper) (j : Nat) : Option Nat := (ops[j]?).bind (·.dst)
def stepA (P : Program) (specs : FuncId → Option Spec) (kk : Nat) (ops : Array Oper) (σ : AS) (o : Oper) : Option (AS × FP) :=
 match o.guard with
 | none=>execA P specs kk σ o
 | some (j,want)=>match gdst ops j with
   | some d=>match lk σ.tmps d with
     | some (.bool b)=>if b = want then execA P specs kk σ o else skipA σ o
     | some (.tup _)=>skipA σ o
     | _=>none
   | none=>none
theorem SR.put {σ : AS} {a : Act} {E E' : Env} {H : NL ABlk} (h : SR σ a E) (s : Step E E') (hH : E'.H = lk H) (hr : HR E') {dst : Option Nat} {x : AV} {v : Value} {ts : NL AV} (hp : putA σ dst x = some ts) (hx : Rep E' x v) :
   SR { σ with tmps:=ts,heap:=H } (a.put dst v) E':=by
 cases dst with
 | none =>
   simp only [putA,Option.some.injEq] at hp
   subst hp
   exact ⟨hH,hr,h.defers,h.size,fun t x ht=>by
     obtain ⟨v,hv,hxv⟩:=h.tmps t x ht
     exact ⟨v,hv,Rep.mono s _ _ hxv⟩⟩
 | some d =>
   simp only [putA] at hp
   split at hp
   · rename_i hd
     simp only [Option.some.injEq] at hp
     subst hp
     refine ⟨hH,hr,h.defers,by simp [Act.put,h.size],fun t y ht=>?_⟩
     simp only [lk] at ht
     split at ht
     · rename_i e
       subst e
       simp only [Option.some.injEq] at ht
       subst ht
       exact ⟨v,by simp [Act.put,h.size,hd],hx⟩
     · rename_i e
       obtain ⟨u,hu,hyu⟩:=h.tmps t y ht
       exact ⟨u,by simp [Act.put,e,hu],Rep.mono s _ _ hyu⟩
   · cases hp
theorem opC_wp {P : Program} {specs : FuncId → Option Spec} (hsp : ∀ f s,specs f = some s → FnC P f s.fn) {σ : AS} {a : Act} {E : Env} (h : SR σ a E) {o : Oper} {dst : Nat} {out : Out AV} (ho : (opC P specs σ.ev dst o.op).run σ.heap = some out)
   {next : Act → World → Prop} {Q : Exit → Act → World → Prop} (hn : out.as → ∀ v E',E'.H = lk out.H → HR E' → Step E E' → Rep E' out.val v → next (a.put o.dst v) E'.w) : o.wp P a E.w next Q:=by
 have plain : (opA P σ.ev dst o.op).run σ.heap = some out → o.wp P a E.w next Q:=fun ho=>by
   obtain ⟨v,E',n,h1,h2,h3,h4,h5,h6,h7⟩:=op_snd h.heap h.hr (ρA := σ.ev) (ρ:=a.eval) (o:=o) (dst:=dst) h.ev out ho
   unfold Oper.wp
   rw [h1]
   rcases h2 with rfl | ⟨rfl,rfl⟩
   · exact hn h7 v E' h3 h4 h5 h6
   · exact hn h7 undef E' h3 h4 h5 h6
 obtain ⟨d,op,type,pos,after,guard⟩:=o
 cases op with
 | call c =>
   obtain ⟨callee,args,ts⟩:=c
   cases callee with
   | value fx =>
     simp only [opC] at ho
     have hfx:=h.ev fx
     split at ho
     · rename_i f first caps e
       rw [e] at hfx
       simp only [Rep] at hfx
       obtain ⟨fs,cs,hv,h1,h2⟩:=hfx
       have hargs : RepL E (args.toList.map σ.ev) (args.map a.eval).toList:=RepL.of_get (by simp) fun i x hi=>by
         simp only [List.getElem?_map,Option.map_eq_some_iff] at hi
         obtain ⟨p,hp,rfl⟩:=hi
         exact ⟨a.eval p,by rw [Array.toList_map,List.getElem?_map,hp]; rfl,h.ev p⟩
       have happ : ∀ {xs ys : List AV} {us vs : List Value},RepL E xs us → RepL E ys vs → RepL E (xs ++ ys) (us ++ vs):=fun {xs ys us vs} h1 h2=>by
         have l1:=h1.length
         refine RepL.of_get (by simp [l1,h2.length]) fun i x hi=>?_
         rw [List.getElem?_append] at hi ⊢
         rw [l1]
         split at hi
         · rename_i q; rw [if_pos q]; exact h1.get hi
         · rename_i q; rw [if_neg q]; exact h2.get hi
       have hall : RepL E (first ++ args.toList.map σ.ev ++ caps) (fs ++ args.map a.eval ++ cs).toList:=by
         simp only [Array.toList_append]
         exact happ (happ h1 hargs) h2
       cases hs : specs f with
       | none =>
         simp only [hs] at ho
         obtain ⟨v,r1,r2,r3,r4⟩:=ext_snd h.heap h.hr hall ho
         have hrun : (execOp a.eval { dst:=d,op := .call { callee := .value fx,args,argTypes:=ts },type,pos,after,guard }).run P E.w = .ok (.value v) E.w:=by
           rw [Array.append_assoc] at r1
           simp [execOp,resolve,Deferred.ofValue,hv,invoke,r1]
         unfold Oper.wp
         rw [hrun]
         exact hn r4 v E r2 h.hr (Step.refl E) r3
       | some s =>
       simp only [hs] at ho
       have hw:=callX_w hsp h.heap h.hr (dst:=dst) (f:=f) hall out ho
       obtain ⟨fn,g1,g2,g3⟩:=(hsp f s hs).fn
       have hrun : (execOp a.eval { dst:=d,op := .call { callee := .value fx,args,argTypes:=ts },type,pos,after,guard }).run P E.w = .ok (.enter f (fs ++ args.map a.eval ++ cs)) E.w:=by
         have g2' : ¬ fn.name = "runtime.NumGoroutine" := by simpa using g2
         have g3' : ¬ fn.body = none:=by intro e; simp [e] at g3
         simp [execOp,resolve,Deferred.ofValue,hv,invoke,callFunc,g1,g2',g3']
       unfold Oper.wp
       rw [hrun]
       show Calls P f _ E.w _
       refine Calls.mono hw fun e w'=>?_
       rintro ⟨v,rfl,has,E',rfl,q1,q2,q3,q4⟩
       exact hn has v E' q1 q2 q3 q4
     · simp [AP.run] at ho
   | builtin b=>exact plain ho
   | invoke r m=>simp [opC,AP.run] at ho
 | _=>exact plain ho
theorem step_wp {P : Program} {specs : FuncId → Option Spec} {kk : Nat} (hsp : ∀ f s,specs f = some s → FnC P f s.fn) {ops : Array Oper} {σ σ' : AS} {a : Act} {E : Env} (h : SR σ a E) {o : Oper} {fp : FP} (hs : stepA P specs kk ops σ o = some (σ',fp))
   {next : Act → World → Prop} {Q : Exit → Act → World → Prop} (hn : fp.as → ∀ a' E',SR σ' a' E' → Step E E' → next a' E'.w) :
   if Region.wanted o (yielded ops a.tmps) then o.wp P a E.w next Q ∨ (o.asks P a E.w ∧ LetsOut Q) else next (a.put o.dst undef) E.w:=by
 have exec : execA P specs kk σ o = some (σ',fp) → o.wp P a E.w next Q:=fun he=>by
   unfold execA at he
   split at he
   · rename_i out ho
     split at he
     · rename_i ts hts
       simp only [Option.some.injEq,Prod.mk.injEq] at he
       obtain ⟨rfl,rfl⟩:=he
       exact opC_wp hsp h ho fun has v E' h1 h2 h3 h4=>hn has _ E' (h.put h3 h1 h2 hts h4) h3
     · cases he
   · cases he
 have skip : skipA σ o = some (σ',fp) → next (a.put o.dst undef) E.w:=fun he=>by
   unfold skipA at he
   split at he
   · rename_i ts hts
     simp only [Option.some.injEq,Prod.mk.injEq] at he
     obtain ⟨rfl,rfl⟩:=he
     exact hn trivial _ E (h.put (Step.refl E) h.heap h.hr hts (by simp only [Rep]; exact ⟨#[],rfl,rfl⟩)) (Step.refl E)
   · cases he
 unfold stepA at hs
 split at hs
 · rename_i hg
   have hw : Region.wanted o (yielded ops a.tmps) = true:=by simp [Region.wanted,hg]
   rw [if_pos hw]
   exact .inl (exec hs)
 · rename_i j want hg
   split at hs
   · rename_i d hd
     split at hs
     · rename_i b hb
       obtain ⟨v,hv,hx⟩:=h.tmps d _ hb
       simp only [Rep] at hx
       subst hx
       have hy : yielded ops a.tmps j = some b:=by
         unfold gdst at hd
         simp [yielded,hd,hv]
       split at hs
       · rename_i e
         have hw : Region.wanted o (yielded ops a.tmps) = true:=by simp [Region.wanted,hg,hy,e]
         rw [if_pos hw]
         exact .inl (exec hs)
       · rename_i e
         have hw : ¬ Region.wanted o (yielded ops a.tmps) = true:=by simp [Region.wanted,hg,hy,e]
         rw [if_neg hw]
         exact skip hs
     · rename_i b hb
       obtain ⟨v,hv,hx⟩:=h.tmps d _ hb
       simp only [Rep] at hx
       obtain ⟨cs,rfl,_⟩:=hx
       have hy : yielded ops a.tmps j = none:=by
         unfold gdst at hd
         simp [yielded,hd,hv]
       have hw : ¬ Region.wanted o (yielded ops a.tmps) = true:=by simp [Region.wanted,hg,hy]
       rw [if_neg hw]
       exact skip hs
     · cases hs
   · cases hs
def runL (P : Program) (specs : FuncId → Option Spec) (kk : Nat) (ops : Array Oper) : List Oper → AS → Option (AS × Prop)
 | [], σ=>some (σ,True)
 | o :: r, σ=>match stepA P specs kk ops σ o with
   | some (σ',fp)=>match runL P specs kk ops r σ' with
     | some (σ'',A)=>some (σ'',fp.as ∧ A)
     | none=>none
   | none=>none
theorem runL_wp {P : Program} {specs : FuncId → Option Spec} {kk : Nat} (hsp : ∀ f s,specs f = some s → FnC P f s.fn) {ops : Array Oper} {Q : Exit → Act → World → Prop} : ∀ (l : List Oper) (k : Nat),(∀ j,l[j]? = ops[k + j]?) → ∀ {σ σ' : AS} {A : Prop} {a : Act} {E : Env},SR σ a E → runL P specs kk ops l σ = some (σ',A) →
   (A → ∀ a' E',SR σ' a' E' → Step E E' → Q .normal a' E'.w) → wpOps P ops Q (List.range' k l.length) a E.w
 | [],k,_, σ, σ',A,a,E,h,hr,hq=>by
   simp only [runL,Option.some.injEq,Prod.mk.injEq] at hr
   obtain ⟨rfl,rfl⟩:=hr
   exact hq trivial a E h (Step.refl E)
 | o :: r,k,hl, σ, σ',A,a,E,h,hr,hq=>by
   simp only [runL] at hr
   split at hr
   · rename_i σ1 fp hs
     split at hr
     · rename_i σ2 A2 hr2
       simp only [Option.some.injEq,Prod.mk.injEq] at hr
       obtain ⟨rfl,rfl⟩:=hr
       have ho : ops[k]? = some o:=by have:=hl 0; simpa using this.symm
       rw [List.length_cons,List.range'_succ]
       simp only [wpOps,ho]
       exact step_wp hsp h hs fun has a' E' h1 h2=>runL_wp hsp r (k + 1) (fun j=>by have:=hl (j + 1); simpa [Nat.add_comm,Nat.add_left_comm,Nat.add_assoc] using this) h1 hr2 fun hA a'' E'' h3 h4=>hq ⟨has,hA⟩ a'' E'' h3 (h2.trans h4)
     · cases hr
   · cases hr
theorem region_wp {P : Program} {specs : FuncId → Option Spec} {kk : Nat} (hsp : ∀ f s,specs f = some s → FnC P f s.fn) {ops : Array Oper} {Q : Exit → Act → World → Prop} {id : Nat} {σ σ' : AS} {A : Prop} {a : Act} {E : Env} (h : SR σ a E) (hr : runL P specs kk ops ops.toList σ = some (σ',A))
   (hq : A → ∀ a' E',SR σ' a' E' → Step E E' → Q .normal a' E'.w) : (Code.region id ops false).wp P Q a E.w:=by
 refine wp_region ?_
 have:=runL_wp hsp (Q:=Q) ops.toList 0 (fun j=>by simp) h hr hq
 rw [List.range_eq_range']
 simpa using this
end
section
theorem AP.run_local {α : Type} : ∀ (p : AP α) (H H2 : NL ABlk) (o : Out α),p.run H = some o → (∀ id ∈ o.rd,lk H id = lk H2 id) →
   ∃ H3,p.run H2 = some { o with H:=H3 } ∧ (∀ id,lk H3 id = if id ∈ o.wr then lk o.H id else lk H2 id) ∧ ∀ id,id ∉ o.wr → lk o.H id = lk H id
 | .ret a,H,H2,o,h,_=>by
   simp only [AP.run,Option.some.injEq] at h
   subst h
   exact ⟨H2,rfl,by simp,by simp⟩
 | .fail,_,_,_,h,_=>by simp [AP.run] at h
 | .get id k,H,H2,o,h,hr=>by
   have key : ∀ b o1,(lk H id).getD {} = b → (k b).run H = some o1 → o = { o1 with rd:=id :: o1.rd } → ∃ H3,(AP.get id k).run H2 = some { o with H:=H3 } ∧ (∀ id,lk H3 id = if id ∈ o.wr then lk o.H id else lk H2 id) ∧ ∀ id,id ∉ o.wr → lk o.H id = lk H id:=by
     intro b o1 hb h1 e
     subst e
     obtain ⟨H3,q1,q2,q3⟩:=AP.run_local (k b) H H2 o1 h1 (fun i hi=>hr i (by simp [hi]))
     refine ⟨H3, ?_,q2,q3⟩
     have hid : lk H2 id = lk H id:=(hr id (by simp)).symm
     simp only [AP.run,hid]
     cases hl : lk H id with
     | none=>simp [hl] at hb; subst hb; simp [q1]
     | some b'=>simp [hl] at hb; subst hb; simp [q1]
   simp only [AP.run] at h
   cases hl : lk H id with
   | none =>
     simp only [hl] at h
     split at h
     · rename_i o1 h1
       simp only [Option.some.injEq] at h
       exact key {} o1 (by simp [hl]) h1 h.symm
     · cases h
   | some b =>
     simp only [hl] at h
     split at h
     · rename_i o1 h1
       simp only [Option.some.injEq] at h
       exact key b o1 (by simp [hl]) h1 h.symm
     · cases h
 | .put id b k,H,H2,o,h,hr=>by
   simp only [AP.run] at h
   split at h
   · rename_i o1 h1
     simp only [Option.some.injEq] at h
     subst h
     obtain ⟨H3,q1,q2,q3⟩:=AP.run_local k (st H id b) (st H2 id b) o1 h1 (fun i hi=>by
       simp only [lk_st]; split
       · rfl
       · exact hr i hi)
     refine ⟨H3,by simp only [AP.run,q1],fun i=>?_,fun i hi=>?_⟩
     · rw [q2 i,lk_st]
       by_cases e1 : i ∈ o1.wr
       · simp [e1]
       · by_cases e2 : id = i
         · subst e2
           have:=q3 id e1
           rw [lk_st,if_pos rfl] at this
           simp [e1,this]
         · have e3 : ¬ i = id:=fun h=>e2 h.symm
           simp only [List.mem_cons,e1,e3,or_self,if_false,e2]
     · simp only [List.mem_cons,not_or] at hi
       rw [q3 i hi.2,lk_st,if_neg (fun e=>hi.1 e.symm)]
   · cases h
 | .asm p k,H,H2,o,h,hr=>by
   simp only [AP.run] at h
   split at h
   · rename_i o1 h1
     simp only [Option.some.injEq] at h
     subst h
     obtain ⟨H3,q1,q2,q3⟩:=AP.run_local k H H2 o1 h1 hr
     exact ⟨H3,by simp only [AP.run,q1],q2,q3⟩
   · cases h
theorem map_congr_op {ρ ρ' : Operand → AV} {xs : Array Operand} (h : ∀ x ∈ xs.toList, ρ x = ρ' x) : xs.toList.map ρ = xs.toList.map ρ' := List.map_congr_left h
theorem opC_congr {P : Program} {specs : FuncId → Option Spec} {ρ ρ' : Operand → AV} {dst : Nat} {op : Op} (h : ∀ x ∈ op.operands.toList, ρ x = ρ' x) : opC P specs ρ dst op = opC P specs ρ' dst op := by
 have pairs : ∀ ps : Array (Nat × Operand),(∀ x ∈ (ps.toList.map (·.2)), ρ x = ρ' x) → (ps.toList.map fun p=>(p.1, ρ p.2)) = (ps.toList.map fun p=>(p.1, ρ' p.2)):=fun ps hp =>
   List.map_congr_left fun p hm=>by rw [hp p.2 (List.mem_map.2 ⟨p,hm,rfl⟩)]
 cases op with
 | call c =>
   obtain ⟨callee,args,ts⟩:=c
   have ha : ∀ x ∈ args.toList, ρ x = ρ' x:=fun x hx=>h x (by simp [Op.operands,Call.operands]; right; simpa using hx)
   have hm : args.toList.map ρ = args.toList.map ρ':=map_congr_op ha
   cases callee with
   | value fx =>
     have hf : ρ fx = ρ' fx:=h fx (by simp [Op.operands,Call.operands])
     simp only [opC,hf,hm]
   | builtin b=>simp only [opC,hm]
   | invoke r m=>rfl
 | build t ps=>simp only [opC,opA]; rw [pairs ps (fun x hx=>h x (by simpa [Op.operands] using hx))]
 | buildSlice t n ps=>simp only [opC,opA]; rw [pairs ps (fun x hx=>h x (by simpa [Op.operands] using hx))]
 | makeFunc fn first caps =>
   simp only [opC,opA]
   rw [map_congr_op (xs:=first) (fun x hx=>h x (by simp [Op.operands]; left; simpa using hx)),map_congr_op (xs:=caps) (fun x hx=>h x (by simp [Op.operands]; right; simpa using hx))]
 | makeMap t r =>
   cases r with
   | none=>rfl
   | some y=>rfl
 | slice t x lo hi mx =>
   cases mx with
   | some m =>
     have h1 : ρ x = ρ' x:=h x (by simp [Op.operands])
     have h2 : lo.map ρ = lo.map ρ':=by cases lo with
       | none=>rfl
       | some y=>simp only [Option.map_some]; rw [h y (by simp [Op.operands])]
     have h3 : hi.map ρ = hi.map ρ':=by cases hi with
       | none=>rfl
       | some y=>simp only [Option.map_some]; rw [h y (by simp [Op.operands])]
     have h4 : ρ m = ρ' m:=h m (by simp [Op.operands])
     simp only [opC,opA,h1,h2,h3,h4]
   | none =>
     have h1 : ρ x = ρ' x:=h x (by simp [Op.operands])
     have h2 : lo.map ρ = lo.map ρ':=by cases lo with
       | none=>rfl
       | some y=>simp only [Option.map_some]; rw [h y (by simp [Op.operands])]
     have h3 : hi.map ρ = hi.map ρ':=by cases hi with
       | none=>rfl
       | some y=>simp only [Option.map_some]; rw [h y (by simp [Op.operands])]
     simp only [opC,opA,h1,h2,h3]
 | _=>simp only [opC,opA] <;> (simp only [Op.operands] at h) <;> simp_all
structure Eqv (σ τ : AS) : Prop where
 n : σ.n = τ.n
 tmps : ∀ t,lk σ.tmps t = lk τ.tmps t
 heap : ∀ id,lk σ.heap id = lk τ.heap id
theorem Eqv.refl (σ : AS) : Eqv σ σ := ⟨rfl,fun _ => rfl,fun _ => rfl⟩
theorem Eqv.symm {σ τ : AS} (h : Eqv σ τ) : Eqv τ σ := ⟨h.n.symm,fun t => (h.tmps t).symm,fun i => (h.heap i).symm⟩
theorem Eqv.trans {σ τ υ : AS} (h : Eqv σ τ) (g : Eqv τ υ) : Eqv σ υ := ⟨h.n.trans g.n,fun t => (h.tmps t).trans (g.tmps t),fun i => (h.heap i).trans (g.heap i)⟩
theorem SR.eqv {σ τ : AS} {a : Act} {E : Env} (h : SR σ a E) (e : Eqv σ τ) : SR τ a E :=
 ⟨by rw [h.heap]; exact funext e.heap,h.hr,h.defers,by rw [h.size,e.n],fun t x ht=>h.tmps t x (by rw [e.tmps]; exact ht)⟩
theorem putA_local {σ τ : AS} {dst : Option Nat} {x : AV} {ts : NL AV} (hn : τ.n = σ.n) (h : putA σ dst x = some ts) :
   ∃ ts',putA τ dst x = some ts' ∧ ∀ t,lk ts' t = if dst = some t then lk ts t else lk τ.tmps t:=by
 cases dst with
 | none=>exact ⟨τ.tmps,rfl,by simp⟩
 | some d =>
   simp only [putA] at h ⊢
   rw [hn]
   split at h
   · rename_i hd
     rw [if_pos hd]
     simp only [Option.some.injEq] at h
     subst h
     refine ⟨_,rfl,fun t=>?_⟩
     simp only [lk,Option.some.injEq]
     split <;> rfl
   · cases h
theorem stepA_local {P : Program} {specs : FuncId → Option Spec} {kk : Nat} {ops : Array Oper} {σ σ1 τ : AS} {o : Oper} {fp : FP} (h : stepA P specs kk ops σ o = some (σ1,fp)) (hn : τ.n = σ.n)
   (ht : ∀ t ∈ o.looksAt ops,lk σ.tmps t = lk τ.tmps t) (hh : ∀ id ∈ fp.rd,lk σ.heap id = lk τ.heap id) :
   ∃ τ1,stepA P specs kk ops τ o = some (τ1,fp) ∧ τ1.n = τ.n ∧ (∀ t,lk τ1.tmps t = if o.dst = some t then lk σ1.tmps t else lk τ.tmps t) ∧ ∀ id,lk τ1.heap id = if id ∈ fp.wr then lk σ1.heap id else lk τ.heap id:=by
 have hev : ∀ x ∈ o.op.operands.toList, σ.ev x = τ.ev x:=by
   intro x hx
   cases x with
   | tmp t =>
     simp only [AS.ev]
     rw [ht t (by simp only [Oper.looksAt,List.mem_append,List.mem_filterMap]; left; exact ⟨.tmp t,hx,rfl⟩)]
   | _=>rfl
 have exec : execA P specs kk σ o = some (σ1,fp) → ∃ τ1,execA P specs kk τ o = some (τ1,fp) ∧ τ1.n = τ.n ∧ (∀ t,lk τ1.tmps t = if o.dst = some t then lk σ1.tmps t else lk τ.tmps t) ∧ ∀ id,lk τ1.heap id = if id ∈ fp.wr then lk σ1.heap id else lk τ.heap id:=by
   intro he
   unfold execA at he ⊢
   rw [← opC_congr (P:=P) (specs:=specs) (dst:=o.dst.getD 0 + kk) hev]
   split at he
   · rename_i out ho
     split at he
     · rename_i ts hts
       simp only [Option.some.injEq,Prod.mk.injEq] at he
       obtain ⟨rfl,rfl⟩:=he
       obtain ⟨H3,q1,q2,_⟩:=AP.run_local _ _ τ.heap _ ho hh
       obtain ⟨ts',p1,p2⟩:=putA_local hn hts
       rw [q1]
       simp only [p1]
       exact ⟨_,rfl,rfl,p2,q2⟩
     · cases he
   · cases he
 have skip : skipA σ o = some (σ1,fp) → ∃ τ1,skipA τ o = some (τ1,fp) ∧ τ1.n = τ.n ∧ (∀ t,lk τ1.tmps t = if o.dst = some t then lk σ1.tmps t else lk τ.tmps t) ∧ ∀ id,lk τ1.heap id = if id ∈ fp.wr then lk σ1.heap id else lk τ.heap id:=by
   intro he
   unfold skipA at he ⊢
   split at he
   · rename_i ts hts
     simp only [Option.some.injEq,Prod.mk.injEq] at he
     obtain ⟨rfl,rfl⟩:=he
     obtain ⟨ts',p1,p2⟩:=putA_local hn hts
     simp only [p1]
     exact ⟨_,rfl,rfl,p2,by simp⟩
   · cases he
 unfold stepA at h ⊢
 cases hg : o.guard with
 | none =>
   simp only [hg] at h ⊢
   exact exec h
 | some p =>
   obtain ⟨j,want⟩:=p
   simp only [hg] at h ⊢
   cases hd : gdst ops j with
   | none=>simp [hd] at h
   | some d =>
     simp only [hd] at h ⊢
     have hl : lk σ.tmps d = lk τ.tmps d:=ht d (by
       simp only [Oper.looksAt,hg,List.mem_append]
       right
       unfold gdst at hd
       simp [hd])
     rw [← hl]
     split at h
     · rename_i b hb
       split at h
       · rename_i e; simp only [e,if_true]; exact exec h
       · rename_i e; simp only [e,if_false]; exact skip h
     · exact skip h
     · cases h
section
variable {P : Program} {specs : FuncId → Option Spec} {kk : Nat} {ops : Array Oper}
def Runs (P : Program) (specs : FuncId → Option Spec) (kk : Nat) (ops : Array Oper) (Φ : Nat → FP) : List Nat → AS → AS → Prop
 | [], σ, σ'=>Eqv σ σ'
 | i :: L, σ, σ' => ∃ o σ1,ops[i]? = some o ∧ stepA P specs kk ops σ o = some (σ1, Φ i) ∧ Runs P specs kk ops Φ L σ1 σ'
theorem Runs.congr {Φ : Nat → FP} : ∀ {L : List Nat} {σ τ σ' : AS},Eqv σ τ → Runs P specs kk ops Φ L σ σ' → Runs P specs kk ops Φ L τ σ'
 | [], σ, τ, σ',e,h=>e.symm.trans h
 | i :: L, σ, τ, σ',e,⟨o, σ1,ho,hs,h⟩=>by
   obtain ⟨τ1,q1,q2,q3,q4⟩:=stepA_local hs e.n.symm (fun t _=>e.tmps t) (fun id _=>e.heap id)
   refine ⟨o, τ1,ho,q1,Runs.congr ?_ h⟩
   obtain ⟨σ2,r1,r2,r3,r4⟩:=stepA_local (τ := σ) hs rfl (fun t _=>rfl) (fun id _=>rfl)
   rw [hs] at r1; cases r1
   refine ⟨by rw [r2,q2,e.n],fun t=>?_,fun id=>?_⟩
   · rw [q3]
     split
     · rfl
     · rename_i q; rw [r3,if_neg q]; exact e.tmps t
   · rw [q4]
     split
     · rfl
     · rename_i q; rw [r4,if_neg q]; exact e.heap id
structure Indep (ops : Array Oper) (Φ : Nat → FP) (i j : Nat) : Prop where
 apart : ∀ oi oj,ops[i]? = some oi → ops[j]? = some oj → oi.apart ops oj = true
 ij : ∀ id ∈ (Φ i).wr,id ∉ (Φ j).rd ∧ id ∉ (Φ j).wr
 ji : ∀ id ∈ (Φ j).wr,id ∉ (Φ i).rd
theorem Runs.swap {Φ : Nat → FP} {i j : Nat} {L : List Nat} {σ σ' : AS} (hi : Indep ops Φ i j) (h : Runs P specs kk ops Φ (i :: j :: L) σ σ') : Runs P specs kk ops Φ (j :: i :: L) σ σ' := by
 obtain ⟨oi, σ1,ho1,hs1,oj, σ2,ho2,hs2,h⟩:=h
 obtain ⟨a1,a2,a3⟩:=Oper.apart_spec (hi.apart oi oj ho1 ho2)
 obtain ⟨σ1',f1,f2,f3,f4⟩:=stepA_local (τ := σ) hs1 rfl (fun t _=>rfl) (fun id _=>rfl)
 rw [hs1] at f1; cases f1
 obtain ⟨σ2',g1,g2,g3,g4⟩:=stepA_local (τ := σ1) hs2 rfl (fun t _=>rfl) (fun id _=>rfl)
 rw [hs2] at g1; cases g1
 obtain ⟨τ1,q1,q2,q3,q4⟩:=stepA_local (τ := σ) hs2 f2.symm
   (fun t ht=>by
     have e : ¬ oi.dst = some t:=fun e=>a1 t e ht
     rw [f3,if_neg e])
   (fun id hid=>by
     have e : ¬ id ∈ (Φ i).wr:=fun e=>(hi.ij id e).1 hid
     rw [f4,if_neg e])
 obtain ⟨τ2,r1,r2,r3,r4⟩:=stepA_local (τ := τ1) hs1 q2
   (fun t ht=>by
     have e : ¬ oj.dst = some t:=fun e=>a3 t e ht
     rw [q3,if_neg e])
   (fun id hid=>by
     have e : ¬ id ∈ (Φ j).wr:=fun e=>hi.ji id e hid
     rw [q4,if_neg e])
 refine ⟨oj, τ1,ho2,q1,oi, τ2,ho1,r1,Runs.congr ⟨by rw [g2,f2,r2,q2],fun t=>?_,fun id=>?_⟩ h⟩
 · rw [r3,q3]
   by_cases e1 : oi.dst = some t
   · have e2 : ¬ oj.dst = some t:=a2 t e1
     rw [if_pos e1,g3 t,if_neg e2]
   · rw [if_neg e1]
     by_cases e2 : oj.dst = some t
     · rw [if_pos e2]
     · rw [if_neg e2,g3 t,if_neg e2,f3 t,if_neg e1]
 · rw [r4,q4]
   by_cases e1 : id ∈ (Φ i).wr
   · have e2:=(hi.ij id e1).2
     rw [if_pos e1,g4 id,if_neg e2]
   · rw [if_neg e1]
     by_cases e2 : id ∈ (Φ j).wr
     · rw [if_pos e2]
     · rw [if_neg e2,g4 id,if_neg e2,f4 id,if_neg e1]
theorem Runs.move {Φ : Nat → FP} {i : Nat} {L2 : List Nat} : ∀ {L1 : List Nat} {σ σ' : AS},(∀ x ∈ L1,Indep ops Φ x i) → Runs P specs kk ops Φ (L1 ++ i :: L2) σ σ' → Runs P specs kk ops Φ (i :: (L1 ++ L2)) σ σ'
 | [],_,_,_,h=>h
 | x :: L1, σ, σ',hi,h=>by
   obtain ⟨o, σ1,ho,hs,h⟩:=h
   have h1:=Runs.move (L1:=L1) (fun y hy=>hi y (by simp [hy])) h
   exact Runs.swap (hi x (by simp)) ⟨o, σ1,ho,hs,h1⟩
def unl (n : Nat) (listed : Array Bool) : List Nat := (List.range n).filter fun i => !listed.getD i true
theorem set_getD {listed : Array Bool} {i : Nat} (hi : i < listed.size) (x : Nat) : (listed.setIfInBounds i true).getD x true = if x = i then true else listed.getD x true := by
 rw [Array.getD_eq_getD_getElem?,Array.getD_eq_getD_getElem?,Array.getElem?_setIfInBounds]
 by_cases e : i = x
 · subst e; simp [hi]
 · have e' : ¬ x = i:=fun h=>e h.symm
   rw [if_neg e,if_neg e']
theorem mem_unl {n : Nat} {listed : Array Bool} {x : Nat} : x ∈ unl n listed ↔ x < n ∧ listed.getD x true = false := by
 unfold unl
 rw [List.mem_filter,List.mem_range,Bool.not_eq_eq_eq_not,Bool.not_true]
theorem unl_split {n : Nat} {listed : Array Bool} {i : Nat} (hsz : listed.size = n) (hi : i < n) (hu : listed.getD i true = false) :
   ∃ L1 L2,unl n listed = L1 ++ i :: L2 ∧ unl n (listed.setIfInBounds i true) = L1 ++ L2 ∧ ∀ x ∈ L1,x < i ∧ listed.getD x true = false:=by
 have hr : List.range n = List.range i ++ i :: (List.range' (i + 1) (n - i - 1)):=by
   rw [List.range_eq_range',List.range_eq_range',show n = i + (1 + (n - i - 1)) from by omega, ← List.range'_append_1, ← List.range'_append_1]
   simp
 have hset:=set_getD (listed:=listed) (i:=i) (by omega)
 refine ⟨(List.range i).filter fun x => !listed.getD x true,(List.range' (i + 1) (n - i - 1)).filter fun x => !listed.getD x true, ?_, ?_,fun x hx=>?_⟩
 · simp only [unl]
   rw [hr,List.filter_append,List.filter_cons,if_pos (by simp [hu])]
 · simp only [unl]
   rw [hr,List.filter_append,List.filter_cons,if_neg (by simp [hset])]
   congr 1
   · refine List.filter_congr fun x hx=>?_
     have : x < i:=by simpa using hx
     rw [hset,if_neg (by omega)]
   · refine List.filter_congr fun x hx=>?_
     have:=(List.mem_range'_1.1 hx).1
     rw [hset,if_neg (by omega)]
 · simp only [List.mem_filter,List.mem_range,Bool.not_eq_eq_eq_not,Bool.not_true] at hx
   exact hx
def binds (o : Oper) (j : Nat) : Prop := ∃ e ∈ o.after.toList,Region.binds .any e = true ∧ e.on = j
theorem any_wp (hsp : ∀ f s,specs f = some s → FnC P f s.fn) {Φ : Nat → FP} {Q : Exit → Act → World → Prop} {σ' : AS} {B : Nat → Nat → Prop}
   (hedge : ∀ i o,ops[i]? = some o → ∀ j,binds o j → j < i) (hB : ∀ i x,B x i → ∃ o,ops[i]? = some o ∧ ∃ j,binds o j ∧ (x = j ∨ B x j))
   (hind : ∀ x i,x < i → i < ops.size → B x i ∨ Indep ops Φ x i) :
   ∀ (fuel : Nat) (listed : Array Bool) {σ : AS} {a : Act} {E : Env},SR σ a E → listed.size = ops.size → (∀ i o,ops[i]? = some o → listed.getD i true = true → ∀ j,binds o j → listed.getD j true = true) →
     (unl ops.size listed).length ≤ fuel → Runs P specs kk ops Φ (unl ops.size listed) σ σ' → ((∀ i ∈ unl ops.size listed,(Φ i).as) → ∀ a' E',SR σ' a' E' → Step E E' → Q .normal a' E'.w) →
     wpAny P .any ops Q fuel listed a E.w:=by
 have done : ∀ (listed : Array Bool) {σ : AS} {a : Act} {E : Env},SR σ a E → unl ops.size listed = [] → Runs P specs kk ops Φ (unl ops.size listed) σ σ' → ((∀ i ∈ unl ops.size listed,(Φ i).as) → ∀ a' E',SR σ' a' E' → Step E E' → Q .normal a' E'.w) → Q .normal a E.w:=by
   intro listed σ a E h hu hr hq
   rw [hu] at hr hq
   exact hq (by simp) a E (h.eqv hr) (Step.refl E)
 have prog : ∀ (listed : Array Bool),listed.size = ops.size → Region.ready .any ops listed = [] → unl ops.size listed = []:=by
   intro listed hsz hready
   cases hu : unl ops.size listed with
   | nil=>rfl
   | cons i L =>
     exfalso
     have hmem : i ∈ unl ops.size listed:=by rw [hu]; simp
     have hi : i < ops.size ∧ listed.getD i true = false:=mem_unl.1 hmem
     have hmin : ∀ j,j < i → listed.getD j true = true:=by
       intro j hj
       by_cases hjl : listed.getD j true = true
       · exact hjl
       · exfalso
         have hjm : listed.getD j true = false:=by simpa using hjl
         obtain ⟨L1,L2,h1,_,h3⟩:=unl_split hsz hi.1 hi.2
         have hjmem : j ∈ unl ops.size listed:=mem_unl.2 ⟨by omega,hjm⟩
         rw [hu] at h1 hjmem
         cases L1 with
         | nil =>
           simp only [List.nil_append,List.cons.injEq,true_and] at h1
           simp only [List.mem_cons] at hjmem
           rcases hjmem with e | e
           · omega
           · -- later elements are greater
             have hs : (unl ops.size listed).Pairwise (· < ·):=List.Pairwise.filter _ (by rw [List.range_eq_range']; exact List.pairwise_lt_range')
             rw [hu,List.pairwise_cons] at hs
             have:=hs.1 j e
             omega
         | cons y L1 =>
           simp only [List.cons_append,List.cons.injEq] at h1
           obtain ⟨rfl,_⟩:=h1
           have:=(h3 i (by simp)).1
           omega
     have hr : i ∈ Region.ready .any ops listed:=by
       simp only [Region.ready,List.mem_filter,List.mem_range]
       refine ⟨hi.1, ?_⟩
       have ho : ops[i]? = some ops[i]:=by simp [hi.1]
       rw [Array.getD_eq_getD_getElem?] at *
       simp only [hi.2,Bool.not_false,Bool.true_and,ho,Option.map_some,Option.getD_some]
       rw [← Array.all_toList,List.all_eq_true]
       intro e he
       cases hb : Region.binds .any e with
       | false=>simp
       | true =>
         have hlt:=hedge i _ ho e.on ⟨e,he,hb,rfl⟩
         have:=hmin e.on hlt
         have hin : e.on < listed.size:=by omega
         rw [Array.getD_eq_getD_getElem?] at this ⊢
         simp only [Array.getElem?_eq_getElem hin,Option.getD_some] at this ⊢
         simp [this]
     rw [hready] at hr
     cases hr
 intro fuel
 induction fuel with
 | zero =>
   intro listed σ a E h hsz hdc hl hr hq
   have hu : unl ops.size listed = []:=List.eq_nil_of_length_eq_zero (by omega)
   refine ⟨?_,done listed h hu hr hq⟩
   cases hrd : Region.ready .any ops listed with
   | nil=>rfl
   | cons i L =>
     exfalso
     have : i ∈ Region.ready .any ops listed:=by rw [hrd]; simp
     simp only [Region.ready,List.mem_filter,List.mem_range,Bool.and_eq_true,Bool.not_eq_eq_eq_not,Bool.not_true] at this
     have hm : i ∈ unl ops.size listed:=mem_unl.2 ⟨this.1,this.2.1⟩
     rw [hu] at hm
     cases hm
 | succ fuel ih =>
   intro listed σ a E h hsz hdc hl hr hq
   refine ⟨fun h0=>done listed h (prog listed hsz h0) hr hq,fun i hi=>?_⟩
   simp only [Region.ready,List.mem_filter,List.mem_range,Bool.and_eq_true,Bool.not_eq_eq_eq_not,Bool.not_true] at hi
   obtain ⟨hin,hiu,hedges⟩:=hi
   have ho : ops[i]? = some ops[i]:=by simp [hin]
   have hdir : ∀ j,binds ops[i] j → listed.getD j true = true:=by
     intro j ⟨e,he,hb,hj⟩
     simp only [ho,Option.map_some,Option.getD_some] at hedges
     rw [← Array.all_toList,List.all_eq_true] at hedges
     have:=hedges e he
     simp only [hb,Bool.not_true,Bool.false_or,hj] at this
     have hjlt : j < listed.size:=by have:=hedge i _ ho j ⟨e,he,hb,hj⟩; omega
     rw [Array.getD_eq_getD_getElem?] at this ⊢
     simp only [Array.getElem?_eq_getElem hjlt,Option.getD_some] at this ⊢
     exact this
   obtain ⟨L1,L2,u1,u2,u3⟩:=unl_split hsz hin hiu
   have hB' : ∀ m x j,j ≤ m → B x j → (∀ o,ops[j]? = some o → ∀ k,binds o k → listed.getD k true = true) → listed.getD x true = true:=by
     intro m
     induction m with
     | zero =>
       intro x j hjm hb hk
       obtain ⟨o,hoj,k,hbk,_⟩:=hB j x hb
       have:=hedge j o hoj k hbk
       omega
     | succ m ihm =>
       intro x j hjm hb hk
       obtain ⟨o,hoj,k,hbk,hxk⟩:=hB j x hb
       have hkl:=hk o hoj k hbk
       rcases hxk with e | e
       · rw [e]; exact hkl
       · have:=hedge j o hoj k hbk
         exact ihm x k (by omega) e (fun o' ho' k' hk'=>hdc k o' ho' hkl k' hk')
   have hindep : ∀ x ∈ L1,Indep ops Φ x i:=by
     intro x hx
     obtain ⟨x1,x2⟩:=u3 x hx
     rcases hind x i x1 hin with hb | hb
     · have:=hB' i x i (Nat.le_refl _) hb (fun o ho' k hk=>by rw [ho] at ho'; cases ho'; exact hdir k hk)
       rw [x2] at this; cases this
     · exact hb
   have hr':=hr
   rw [u1] at hr'
   obtain ⟨o, σ1,ho',hs,hr2⟩:=Runs.move hindep hr'
   rw [ho] at ho'; cases ho'
   unfold wpOp
   simp only [ho]
   refine step_wp hsp h hs fun has a' E' h1 h2=>?_
   refine ih (listed.setIfInBounds i true) h1 (by simpa using hsz) ?_ ?_ (by rw [u2]; exact hr2) ?_
   · intro k o hk hkl j hj
     have hset:=set_getD (listed:=listed) (i:=i) (by omega)
     rw [hset] at hkl ⊢
     split
     · rfl
     · by_cases e : k = i
       · subst e
         rw [ho] at hk; cases hk
         exact hdir j hj
       · rw [if_neg e] at hkl
         exact hdc k o hk hkl j hj
   · rw [u2]
     rw [u1] at hl
     simp only [List.length_append,List.length_cons] at hl ⊢
     omega
   · intro hA a'' E'' g1 g2
     refine hq (fun x hx=>?_) a'' E'' g1 (h2.trans g2)
     rw [u1] at hx
     rw [u2] at hA
     simp only [List.mem_append,List.mem_cons] at hx
     rcases hx with hx | hx | hx
     · exact hA x (by simp [hx])
     · subst hx; exact has
     · exact hA x (by simp [hx])
end
end
section
def befs : List Oper → List Nat → List Nat
 | [],acc=>acc
 | o :: r,acc=>befs r (acc ++ [o.after.toList.foldl (fun s e=>if Region.binds .any e then s ||| 2 ^ e.on ||| acc.getD e.on 0 else s) 0])
def edgesOK (ops : List Oper) : Bool := ops.zipIdx.all fun p => p.1.after.toList.all fun e => !Region.binds .any e || decide (e.on < p.2)
def pairsUpTo (n : Nat) : List (Nat × Nat) := (List.range n).flatMap fun j => (List.range j).map fun i => (i,j)
def openPairs (ops : Array Oper) : Option (List (Nat × Nat)) :=
 let b:=befs ops.toList []
 let l:=(pairsUpTo ops.size).filter fun p => !(b.getD p.2 0).testBit p.1
 if edgesOK ops.toList && l.all (fun p=>match ops[p.1]?,ops[p.2]? with
   | some x,some y=>x.apart ops y
   | _,_=>false) then some l else none
def fpOK (x y : FP) : Bool :=
 x.wr.all (fun id => !y.rd.contains id && !y.wr.contains id) && y.wr.all (fun id => !x.rd.contains id)
def runF (P : Program) (specs : FuncId → Option Spec) (kk : Nat) (ops : Array Oper) : List Oper → AS → Option (AS × List FP)
 | [], σ=>some (σ,[])
 | o :: r, σ=>match stepA P specs kk ops σ o with
   | some (σ',fp)=>match runF P specs kk ops r σ' with
     | some (σ'',fs)=>some (σ'',fp :: fs)
     | none=>none
   | none=>none
def asAll : List FP → Prop
 | []=>True
 | f :: r=>f.as ∧ asAll r
def nofp : FP := ⟨[],[],True⟩
def runD (P : Program) (specs : FuncId → Option Spec) (kk : Nat) (ops : Array Oper) (σ : AS) : Option (AS × Prop) :=
 match openPairs ops with
 | some l=>match runF P specs kk ops ops.toList σ with
   | some (σ',fps)=>if l.all (fun p=>fpOK (fps.getD p.1 nofp) (fps.getD p.2 nofp)) then some (σ',asAll fps) else none
   | none=>none
 | none=>none
def runR (P : Program) (specs : FuncId → Option Spec) (kk : Nat) (ops : Array Oper) (draw : Bool) (σ : AS) : Option (AS × Prop) :=
 match draw with
 | true=>runD P specs kk ops σ
 | false=>runL P specs kk ops ops.toList σ
theorem foldl_bits {acc : List Nat} : ∀ (es : List Edge) (s : Nat) (x : Nat),(es.foldl (fun s e => if Region.binds .any e then s ||| 2 ^ e.on ||| acc.getD e.on 0 else s) s).testBit x = true →
   s.testBit x = true ∨ ∃ e ∈ es,Region.binds .any e = true ∧ (x = e.on ∨ (acc.getD e.on 0).testBit x = true)
 | [],s,x,h => .inl h
 | e :: r,s,x,h=>by
   simp only [List.foldl_cons] at h
   rcases foldl_bits r _ x h with h1 | ⟨e',h1,h2,h3⟩
   · split at h1
     · rename_i hb
       simp only [Nat.testBit_or,Bool.or_eq_true,Nat.testBit_two_pow,decide_eq_true_eq] at h1
       rcases h1 with (h1 | h1) | h1
       · exact .inl h1
       · exact .inr ⟨e,by simp,hb, .inl h1.symm⟩
       · exact .inr ⟨e,by simp,hb, .inr h1⟩
     · exact .inl h1
   · exact .inr ⟨e',by simp [h1],h2,h3⟩
theorem befs_spec : ∀ (r : List Oper) (acc : List Nat) (i : Nat),(befs r acc).getD i 0 = acc.getD i 0 ∨ acc.length ≤ i
 | [],acc,i => .inl rfl
 | o :: r,acc,i=>by
   simp only [befs]
   rcases befs_spec r (acc ++ [_]) i with h | h
   · by_cases hi : i < acc.length
     · left; rw [h,List.getD_eq_getElem?_getD,List.getD_eq_getElem?_getD,List.getElem?_append_left hi]
     · right; omega
   · right; simp at h; omega
theorem befs_edge : ∀ (r : List Oper) (acc : List Nat) (i x : Nat),((befs r acc).getD i 0).testBit x = true → (acc.getD i 0).testBit x = true ∨
   ∃ o,acc.length ≤ i ∧ r[i - acc.length]? = some o ∧ ∃ e ∈ o.after.toList,Region.binds .any e = true ∧ (¬ e.on < i ∨ x = e.on ∨ ((befs r acc).getD e.on 0).testBit x = true)
 | [],acc,i,x,h => .inl h
 | o :: r, acc, i, x, h => by
   simp only [befs] at h
   rcases befs_edge r _ i x h with h1 | ⟨o',h2,h3,e,h4,h5,h6⟩
   · rcases Nat.lt_trichotomy i acc.length with hi | hi | hi
     · left
       rwa [List.getD_eq_getElem?_getD,List.getElem?_append_left hi, ← List.getD_eq_getElem?_getD] at h1
     · right
       subst hi
       rw [List.getD_eq_getElem?_getD,List.getElem?_append_right (Nat.le_refl _)] at h1
       simp only [Nat.sub_self,List.getElem?_cons_zero,Option.getD_some] at h1
       rcases foldl_bits _ _ _ h1 with h2 | ⟨e,h2,h3,h4⟩
       · simp at h2
       · refine ⟨o,Nat.le_refl _,by simp,e,h2,h3, ?_⟩
         by_cases hlt : e.on < acc.length
         · right
           rcases h4 with h4 | h4
           · exact .inl h4
           · right
             simp only [befs]
             rcases befs_spec r (acc ++ [o.after.toList.foldl (fun s e=>if Region.binds .any e then s ||| 2 ^ e.on ||| acc.getD e.on 0 else s) 0]) e.on with h5 | h5
             · rw [h5,List.getD_eq_getElem?_getD,List.getElem?_append_left hlt, ← List.getD_eq_getElem?_getD]; exact h4
             · simp at h5; omega
         · exact .inl hlt
     · exfalso
       rw [List.getD_eq_getElem?_getD,List.getElem?_eq_none (by simp; omega)] at h1
       simp at h1
   · right
     refine ⟨o',by simp at h2; omega, ?_,e,h4,h5,by simpa only [befs] using h6⟩
     simp only [List.length_append,List.length_singleton] at h2 h3
     rw [show i - acc.length = (i - (acc.length + 1)) + 1 from by omega,List.getElem?_cons_succ]
     exact h3
theorem runF_runs {P : Program} {specs : FuncId → Option Spec} {kk : Nat} {ops : Array Oper} : ∀ (l : List Oper) (k : Nat),(∀ j,l[j]? = ops[k + j]?) → ∀ {σ σ' : AS} {fps : List FP},runF P specs kk ops l σ = some (σ',fps) →
   fps.length = l.length ∧ ∀ Φ : Nat → FP,(∀ j fp,fps[j]? = some fp → Φ (k + j) = fp) → Runs P specs kk ops Φ (List.range' k l.length) σ σ'
 | [],k,_, σ, σ',fps,h=>by
   simp only [runF,Option.some.injEq,Prod.mk.injEq] at h
   obtain ⟨rfl,rfl⟩:=h
   exact ⟨rfl,fun _ _=>Eqv.refl _⟩
 | o :: r,k,hl, σ, σ',fps,h=>by
   simp only [runF] at h
   split at h
   · rename_i σ1 fp hs
     split at h
     · rename_i σ2 fs hr
       simp only [Option.some.injEq,Prod.mk.injEq] at h
       obtain ⟨rfl,rfl⟩:=h
       obtain ⟨q1,q2⟩:=runF_runs r (k + 1) (fun j=>by have:=hl (j + 1); simpa [Nat.add_comm,Nat.add_left_comm,Nat.add_assoc] using this) hr
       refine ⟨by simp [q1],fun Φ hΦ=>?_⟩
       rw [List.length_cons,List.range'_succ]
       have ho : ops[k]? = some o:=by have:=hl 0; simpa using this.symm
       have h0 : Φ k = fp:=by simpa using hΦ 0 fp (by simp)
       refine ⟨o, σ1,ho,by rw [h0]; exact hs,q2 Φ fun j fp' hj=>?_⟩
       have:=hΦ (j + 1) fp' (by simpa using hj)
       rw [← this]; congr 1; omega
     · cases h
   · cases h
theorem asAll_of : ∀ {fps : List FP},(∀ (i : Nat) (f : FP),fps[i]? = some f → f.as) → asAll fps
 | [],_=>trivial
 | g :: r,h=>⟨h 0 g (by simp),asAll_of fun i f hf=>h (i + 1) f (by simpa using hf)⟩
theorem regionD_wp {P : Program} {specs : FuncId → Option Spec} {kk : Nat} (hm : P.follows .mixedOrders = true) (hsp : ∀ f s,specs f = some s → FnC P f s.fn) {ops : Array Oper} {Q : Exit → Act → World → Prop} {id : Nat} {σ σ' : AS} {A : Prop} {a : Act} {E : Env} (h : SR σ a E) (hr : runD P specs kk ops σ = some (σ',A))
   (hq : A → ∀ a' E',SR σ' a' E' → Step E E' → Q .normal a' E'.w) : (Code.region id ops true).wp P Q a E.w:=by
 unfold runD at hr
 split at hr
 · rename_i l hl
   split at hr
   · rename_i σ1 fps hF
     split at hr
     · rename_i hall
       simp only [Option.some.injEq,Prod.mk.injEq] at hr
       obtain ⟨rfl,rfl⟩:=hr
       refine wp_region_any hm ?_
       -- the draw itself
       let E1 : Env:=⟨{ E.w with drawn:=E.w.drawn + 1 },E.H,E.φ,E.cs,E.F⟩
       have hs1 : Step E E1:=⟨Nat.le_refl _,fun _ _ _=>rfl,rfl,fun _ blk hb=>⟨blk,hb,Nat.le_refl _,fun _ _=>⟨.inl rfl,rfl,rfl,rfl,rfl⟩⟩,fun _ blk hb hk hc => .inl ⟨_,blk,hb,hk,hc,rfl, .inl rfl⟩,⟨rfl,rfl,rfl,fun _ _=>rfl⟩⟩
       have hr1 : HR E1:=⟨fun id b hb=>BlkOK.mono hs1 rfl rfl (fun _ _=>rfl) (h.hr.blk id b hb),h.hr.inj,h.hr.nf,h.hr.fb⟩
       have h1 : SR σ a E1:=⟨h.heap,hr1,h.defers,h.size,fun t x ht=>by
         obtain ⟨v,hv,hx⟩:=h.tmps t x ht
         exact ⟨v,hv,Rep.mono hs1 _ _ hx⟩⟩
       simp only [openPairs] at hl
       split at hl
       · rename_i hchk
         simp only [Option.some.injEq] at hl
         subst hl
         simp only [Bool.and_eq_true,List.all_eq_true,List.mem_filter] at hchk
         obtain ⟨hedges,hap⟩:=hchk
         obtain ⟨hlen,hruns⟩:=runF_runs ops.toList 0 (fun j=>by simp) hF
         have hedge : ∀ i o,ops[i]? = some o → ∀ j,binds o j → j < i:=by
           intro i o ho j ⟨e,he,hb,hj⟩
           have hm : (o,i) ∈ ops.toList.zipIdx:=by
             rw [List.mem_zipIdx_iff_getElem?]; simpa using ho
           have:=List.all_eq_true.1 hedges (o,i) hm
           have:=List.all_eq_true.1 this e he
           simp only [hb,Bool.not_true,Bool.false_or,decide_eq_true_eq] at this
           omega
         have hpair : ∀ x i,x < i → i < ops.size → (x,i) ∈ pairsUpTo ops.size:=by
           intro x i hx hi
           simp only [pairsUpTo,List.mem_flatMap,List.mem_range,List.mem_map,Prod.mk.injEq]
           exact ⟨i,hi,x,hx,rfl,rfl⟩
         have hun : unl ops.size (Array.replicate ops.size false) = List.range ops.size:=by
           unfold unl
           rw [List.filter_eq_self]
           intro x hx
           have : x < ops.size:=by simpa using hx
           simp [Array.getD_eq_getD_getElem?,this]
         refine any_wp (kk:=kk) hsp (Φ:=fun i=>fps.getD i nofp) (σ' := σ1) (B:=fun x i=>((befs ops.toList []).getD i 0).testBit x = true) hedge ?_ ?_ ops.size (Array.replicate ops.size false) (E:=E1) h1 (by simp) ?_ ?_ ?_ ?_
         · intro i x hb
           rcases befs_edge ops.toList [] i x hb with hb1 | ⟨o,_,ho,e,he,hbi,hx⟩
           · simp at hb1
           · have ho' : ops[i]? = some o:=by simpa using ho
             rcases hx with hx | hx
             · exact absurd (hedge i o ho' e.on ⟨e,he,hbi,rfl⟩) hx
             · exact ⟨o,ho',e.on,⟨e,he,hbi,rfl⟩,hx⟩
         · intro x i hx hi
           by_cases hb : ((befs ops.toList []).getD i 0).testBit x = true
           · exact .inl hb
           · right
             have hmem : (x,i) ∈ pairsUpTo ops.size ∧ (!((befs ops.toList []).getD i 0).testBit x) = true:=⟨hpair x i hx hi,by simpa using hb⟩
             have h2:=hap (x,i) hmem
             have h3:=List.all_eq_true.1 hall (x,i) (by rw [List.mem_filter]; exact hmem)
             simp only [fpOK,Bool.and_eq_true,List.all_eq_true,Bool.not_eq_eq_eq_not,Bool.not_true] at h3
             refine ⟨fun ox oi e1 e2=>?_,fun id hid=>?_,fun id hid=>?_⟩
             · simp only [e1,e2] at h2
               exact h2
             · have:=h3.1 id hid
               simpa using this
             · have:=h3.2 id hid
               simpa using this
         · intro i o ho hl j hj
           have hlt : i < ops.size:=(Array.getElem?_eq_some_iff.1 ho).1
           simp [Array.getD_eq_getD_getElem?,hlt] at hl
         · rw [hun]; simp
         · rw [hun,List.range_eq_range']
           have:=hruns (fun i=>fps.getD i nofp) (fun j fp hj=>by simp [List.getD_eq_getElem?_getD,hj])
           simpa using this
         · intro hA a' E' g1 g2
           refine hq (asAll_of fun i f hf=>?_) a' E' g1 (hs1.trans g2)
           have hi : i < ops.size:=by
             have:=(List.getElem?_eq_some_iff.1 hf).1
             rw [hlen] at this; simpa using this
           have:=hA i (by rw [hun]; simpa using hi)
           simpa [List.getD_eq_getElem?_getD,hf] using this
       · cases hl
     · cases hr
   · cases hr
 · cases hr
def loopN (B : (Exit → AS → Prop) → AS → Prop) (Q : Exit → AS → Prop) : Nat → AS → Prop
 | 0,_=>False
 | n + 1, σ=>B (fun e σ'=>match e with
   | .normal=>loopN B Q n σ'
   | e=>Q e σ') σ
def awp (P : Program) (specs : FuncId → Option Spec) : Code → (Exit → AS → Prop) → AS → Prop
 | .skip,Q, σ=>Q .normal σ
 | .label _,Q, σ=>Q .normal σ
 | .region _ ops draw,Q, σ => ∃ kk,match runR P specs kk ops draw σ with
   | some (σ',A)=>A → Q .normal σ'
   | none=>False
 | .seq x y,Q, σ=>awp P specs x (fun e σ'=>match e with
   | .normal=>awp P specs y Q σ'
   | e=>Q e σ') σ
 | .cond c x y,Q, σ=>match σ.ev c with
   | .bool b=>(b = true → awp P specs x Q σ) ∧ (b = false → awp P specs y Q σ)
   | _=>False
 | .block id x,Q, σ=>awp P specs x (fun e σ'=>match e with
   | .exit i=>if i = id then Q .normal σ' else Q (.exit i) σ'
   | e=>Q e σ') σ
 | .loop x,Q, σ => ∃ n,loopN (awp P specs x) Q n σ
 | .exit id,Q, σ=>Q (.exit id) σ
 | .ret,Q, σ=>Q .ret σ
 | .scope x,Q, σ=>awp P specs x (fun e σ'=>match e with
   | .goto _=>False
   | e=>Q e σ') σ
 | _,_,_=>False
def Post (E : Env) (Q : Exit → AS → Prop) (e : Exit) (a' : Act) (w' : World) : Prop := ∃ σ' E',E'.w = w' ∧ SR σ' a' E' ∧ Step E E' ∧ Q e σ'
theorem awp_sound {P : Program} {specs : FuncId → Option Spec} (hm : P.follows .mixedOrders = true) (hsp : ∀ f s,specs f = some s → FnC P f s.fn) : ∀ (c : Code) {Q : Exit → AS → Prop} {σ : AS} {a : Act} {E : Env},SR σ a E → awp P specs c Q σ → c.wp P (Post E Q) a E.w
 | .skip,Q, σ,a,E,h,hw=>wp_skip ⟨σ,E,rfl,h,Step.refl E,hw⟩
 | .label _,Q, σ,a,E,h,hw=>wp_label ⟨σ,E,rfl,h,Step.refl E,hw⟩
 | .region id ops draw,Q, σ,a,E,h,hw=>by
   simp only [awp] at hw
   obtain ⟨kk,hw⟩:=hw
   split at hw
   · rename_i σ' A hr
     cases draw with
     | true=>exact regionD_wp hm hsp h hr fun hA a' E' h1 h2=>⟨σ',E',rfl,h1,h2,hw hA⟩
     | false=>exact region_wp hsp h hr fun hA a' E' h1 h2=>⟨σ',E',rfl,h1,h2,hw hA⟩
   · exact hw.elim
 | .seq x y,Q, σ,a,E,h,hw=>by
   simp only [awp] at hw
   refine wp_seq (wp_mono (awp_sound hm hsp x h hw) fun e a' w' hp=>?_)
   obtain ⟨σ',E',rfl,h1,h2,h3⟩:=hp
   cases e with
   | normal =>
     refine wp_mono (awp_sound hm hsp y h1 h3) fun e a'' w'' hp=>?_
     obtain ⟨σ'',E'',rfl,g1,g2,g3⟩:=hp
     exact ⟨σ'',E'',rfl,g1,h2.trans g2,g3⟩
   | _=>exact ⟨σ',E',rfl,h1,h2,h3⟩
 | .cond c x y,Q, σ,a,E,h,hw=>by
   simp only [awp] at hw
   have hc:=h.ev c
   split at hw
   · rename_i b hb
     rw [hb] at hc
     simp only [Rep] at hc
     exact wp_cond_split hc (fun ht=>awp_sound hm hsp x h (hw.1 ht)) (fun hf=>awp_sound hm hsp y h (hw.2 hf))
   · exact hw.elim
 | .block id x,Q, σ,a,E,h,hw=>by
   simp only [awp] at hw
   refine wp_block (wp_mono (awp_sound hm hsp x h hw) fun e a' w' hp=>?_)
   obtain ⟨σ',E',rfl,h1,h2,h3⟩:=hp
   cases e with
   | exit i =>
     simp only [Exit.inBlock]
     simp only at h3
     split
     · rename_i e; rw [if_pos e] at h3; exact ⟨σ',E',rfl,h1,h2,h3⟩
     · rename_i e; rw [if_neg e] at h3; exact ⟨σ',E',rfl,h1,h2,h3⟩
   | _=>exact ⟨σ',E',rfl,h1,h2,h3⟩
 | .loop x,Q, σ,a,E,h,hw=>by
   simp only [awp] at hw
   obtain ⟨n,hn⟩:=hw
   refine wp_loop_rounds n ?_
   have key : ∀ (n : Nat) {σ : AS} {a : Act} {E1 : Env},Step E E1 → SR σ a E1 → loopN (awp P specs x) Q n σ → Code.rounds P x (Post E Q) n a E1.w:=by
     intro n
     induction n with
     | zero=>intro σ a E1 _ _ hl; exact hl.elim
     | succ n ih =>
       intro σ a E1 hs h1 hl
       simp only [loopN] at hl
       rw [rounds_succ]
       refine wp_mono (awp_sound hm hsp x h1 hl) fun e a'' w'' hp=>?_
       obtain ⟨σ2,E2,rfl,k1,k2,k3⟩:=hp
       cases e with
       | normal=>exact ih (hs.trans k2) k1 k3
       | _=>exact ⟨σ2,E2,rfl,k1,hs.trans k2,k3⟩
   exact key n (Step.refl E) h hn
 | .exit id,Q, σ,a,E,h,hw=>wp_exit ⟨σ,E,rfl,h,Step.refl E,hw⟩
 | .ret,Q, σ,a,E,h,hw=>wp_ret ⟨σ,E,rfl,h,Step.refl E,hw⟩
 | .rangeFunc ..,_,_,_,_,_,hw=>hw.elim
 | .scope x,Q, σ,a,E,h,hw=>by
   simp only [awp] at hw
   refine wp_scope_straight (wp_mono (awp_sound hm hsp x h hw) fun e a' w' hp=>?_)
   obtain ⟨σ',E',rfl,h1,h2,h3⟩:=hp
   cases e with
   | goto l=>exact h3.elim
   | _=>exact ⟨σ',E',rfl,h1,h2,h3⟩
 | .goto _,_,_,_,_,_,hw=>hw.elim
 | .refuse _,_,_,_,_,_,hw=>hw.elim
end
section
def num {α : Type} : Nat → List α → NL α
 | _,[]=>[]
 | k,x :: r=>(k,x) :: num (k + 1) r
theorem lk_num {α : Type} : ∀ (l : List α) (k i : Nat),lk (num k l) i = if k ≤ i then l[i - k]? else none
 | [],k,i=>by simp [num,lk]
 | x :: r,k,i=>by
   simp only [num,lk,lk_num r (k + 1) i]
   by_cases h : k = i
   · subst h; simp
   · rw [if_neg h]
     by_cases h2 : k + 1 ≤ i
     · rw [if_pos h2,if_pos (by omega),show i - k = (i - (k + 1)) + 1 from by omega,List.getElem?_cons_succ]
     · rw [if_neg h2,if_neg (by omega)]
def frzT (x : AV) (k : AV → AP AV) : AP AV :=
 match x with
 | .tup cs=>frzVs cs fun cs'=>k (.tup cs')
 | x=>frzV x k
def inlV : AV → Bool
 | .agg cs=>cs.all AV.isInl
 | x=>x.isInl
def inlT : AV → Bool
 | .tup cs=>cs.all inlV
 | x=>inlV x
theorem inlL_rep {E : Env} {p : AV → Bool} (hp : ∀ {x : AV} {v : Value},p x = true → Rep E x v → RepI E.w E.imm x v) : ∀ {xs : List AV} {vs : List Value},xs.all p = true → RepL E xs vs → RepIL E.w E.imm xs vs
 | [],_,_,h=>by simpa only [RepL,RepIL] using h
 | x :: r,vs,ha,h=>by
   simp only [List.all_cons,Bool.and_eq_true] at ha
   simp only [RepL] at h
   simp only [RepIL]
   obtain ⟨v,vs',rfl,h1,h2⟩:=h
   exact ⟨v,vs',rfl,hp ha.1 h1,inlL_rep hp ha.2 h2⟩
theorem inlV_rep {E : Env} {x : AV} {v : Value} (h : inlV x = true) (hx : Rep E x v) : RepI E.w E.imm x v := by
 unfold inlV at h
 split at h
 · simp only [Rep] at hx
   simp only [RepI]
   obtain ⟨cs,rfl,hc⟩:=hx
   exact ⟨cs,rfl,inlL_rep (fun h hx=>isInl_rep hx h) h hc⟩
 · exact isInl_rep hx h
theorem inlT_rep {E : Env} {x : AV} {v : Value} (h : inlT x = true) (hx : Rep E x v) : RepI E.w E.imm x v := by
 unfold inlT at h
 split at h
 · simp only [Rep] at hx
   simp only [RepI]
   obtain ⟨cs,rfl,hc⟩:=hx
   exact ⟨cs,rfl,inlL_rep inlV_rep h hc⟩
 · exact inlV_rep h hx
def PureAct (v : Value) : ActW where
 f w K:=K v w
 mono _ _ _ h hk:=h _ _ hk
theorem frzT_run {E : Env} {H : NL ABlk} (hH : E.H = lk H) (hr : HR E) {x : AV} {v : Value} (hx : Rep E x v) {out : Out AV} (ho : (frzT x .ret).run H = some out) :
   ∃ E',E'.w = E.w ∧ HR E' ∧ Step E E' ∧ Rep E' out.val v:=by
 have : SndW E H (frzT x .ret) (PureAct v):=by
   unfold frzT
   split
   · simp only [Rep] at hx
     obtain ⟨cs,rfl,hc⟩:=hx
     refine frzVs_w hH hr hc fun E1 H1 xs' e1 e2 e3 e4 e5=>fun out ho=>?_
     simp only [AP.run,Option.some.injEq] at ho; subst ho
     refine ⟨trivial,E1,rfl,e2,e3,Step.refl _, ?_⟩
     simp only [Rep]
     exact ⟨cs,rfl,RepIL.rep _ _ e5⟩
   · refine frzV_w hH hr hx fun E1 H1 x' e1 e2 e3 e4 e5=>fun out ho=>?_
     simp only [AP.run,Option.some.injEq] at ho; subst ho
     exact ⟨trivial,E1,rfl,e2,e3,Step.refl _,e5.rep⟩
 obtain ⟨_,E',h1,_,h3,h4,h5⟩:=this out ho
 exact ⟨E',h1,h3,h4,h5⟩
def resV (P : Program) (σ : AS) : ResultVar → Option AV
 | .tmp t=>some (σ.ev (.tmp t))
 | .cell a t=>match (loadA P t (σ.ev (.tmp a))).run σ.heap with
   | some o=>some o.val
   | none=>none
def resVs (P : Program) (σ : AS) : List ResultVar → Option (List AV)
 | []=>some []
 | r :: rs=>match resV P σ r,resVs P σ rs with
   | some x,some xs=>some (x :: xs)
   | _,_=>none
def pack : List AV → AV
 | [x]=>x
 | xs => .tup xs
theorem loadA_run {P : Program} {E : Env} {H : NL ABlk} (hH : E.H = lk H) (hr : HR E) {t : TypeId} {x : AV} {v : Value} (hx : Rep E x v) {o : Out AV} (ho : (loadA P t x).run H = some o) : ∃ u,(Instr.loadAt t v).run P E.w = .ok u E.w ∧ Rep E o.val u := by
 obtain ⟨u,E',h1,h2,h3,h4,h5,h6⟩:=load_snd (P:=P) hH hr (t:=t) hx o ho
 -- a load leaves everything as it is
 cases x with
 | ptr id g r off =>
   simp only [Rep] at hx
   obtain ⟨blk,a,hb,hle,rfl,hg⟩:=hx
   rw [hH] at hb
   simp only [loadA,AP.run,hb] at ho
   split at ho
   · rename_i o1 ho1
     simp only [Option.some.injEq] at ho
     subst ho
     split at ho1
     · rename_i hc
       obtain ⟨hk,rfl⟩:=hg hc.1
       split at ho1
       · rename_i row hrow
         obtain ⟨C,hC,hcs,hsz,hle,hlen,hcell⟩:=hr.cells (by rw [hH]; exact hb) hk
         obtain ⟨e1,u,e2,e3⟩:=mkv_load (P:=P) (b:=E.φ id) (off:=r * blk.size + off) (fun i x hx=>by
           rw [List.getElem?_drop] at hx
           obtain ⟨u,hu,_,hru⟩:=hcell r row (off + i) x hrow hx
           refine ⟨u, ?_,hru.rep⟩
           have hpos : 0 < E.cs id:=by rw [← hcs]; have:=(Array.getElem?_eq_some_iff.1 hu).1; omega
           rw [cell_of_heap (hC hpos), ← hu]
           congr 1; omega) ho1
         refine ⟨u, ?_,e3⟩
         simp only [Instr.loadAt,Instr.sureAddr,Sem.run_bind,Sem.run_pure,Result.andThen_ok]
         exact e2
       · simp [AP.run] at ho1
     · simp [AP.run] at ho1
   · cases ho
 | cptr cells =>
   simp only [Rep,RepI] at hx
   obtain ⟨b,off,rfl,hi,hc⟩:=hx
   simp only [loadA] at ho
   obtain ⟨e1,u,e2,e3⟩:=mkv_load (E:=E) (b:=b) (off:=off) (fun i x hx=>by
     obtain ⟨u,hu,_,hru⟩:=hc.get hx
     exact ⟨u,hu,hru.rep⟩) ho
   refine ⟨u, ?_,e3⟩
   simp only [Instr.loadAt,Instr.sureAddr,Sem.run_bind,Sem.run_pure,Result.andThen_ok]
   exact e2
 | _=>simp [loadA,AP.run] at ho
def resF (tmps : Array Value) (r : ResultVar) : Sem Value :=
 match r with
 | .tmp t=>pure (tmps.getD t undef)
 | .cell a t=>do loadVar t (← asAddr (tmps.getD a undef))
theorem results_eq (fn : Func) (tmps : Array Value) : results fn tmps = (do let vs ← fn.results.mapM (resF tmps); pure (if h : vs.size = 1 then vs[0] else .tuple vs)) := rfl
theorem resVs_run {P : Program} {σ : AS} {a : Act} {E : Env} (h : SR σ a E) {fn : Func} {xs : List AV} (hx : resVs P σ fn.results.toList = some xs) :
   ∃ v,(results fn a.tmps).run P E.w = .ok v E.w ∧ Rep E (pack xs) v:=by
 have key : ∀ (rs : List ResultVar) (xs : List AV),resVs P σ rs = some xs → ∃ vs,(rs.mapM (resF a.tmps)).run P E.w = .ok vs E.w ∧ RepL E xs vs:=by
   intro rs
   induction rs with
   | nil=>intro xs hx; simp only [resVs,Option.some.injEq] at hx; subst hx; exact ⟨[],by simp,by simp [RepL]⟩
   | cons r rs ih =>
     intro xs hx
     simp only [resVs] at hx
     split at hx
     · rename_i x xs' e1 e2
       simp only [Option.some.injEq] at hx
       subst hx
       obtain ⟨vs,g1,g2⟩:=ih xs' e2
       have hr : ∃ u,(resF a.tmps r).run P E.w = .ok u E.w ∧ Rep E x u:=by
         cases r with
         | tmp t =>
           simp only [resV,Option.some.injEq] at e1
           subst e1
           exact ⟨_,rfl,h.ev (.tmp t)⟩
         | cell ad t =>
           simp only [resV] at e1
           split at e1
           · rename_i o ho
             simp only [Option.some.injEq] at e1
             subst e1
             obtain ⟨u,q1,q2⟩:=loadA_run h.heap h.hr (h.ev (.tmp ad)) ho
             refine ⟨u, ?_,q2⟩
             simp only [Act.eval] at q1
             simp only [Instr.loadAt,Sem.run_bind] at q1
             simp only [resF,Sem.run_bind]
             generalize a.tmps.getD ad undef = vv at *
             cases vv <;> simp [Instr.sureAddr] at q1
             rename_i oa
             cases oa <;> simp at q1
             simpa [asAddr] using q1
           · cases e1
       obtain ⟨u,q1,q2⟩:=hr
       refine ⟨u :: vs, ?_,by simp only [RepL]; exact ⟨u,vs,rfl,q2,g2⟩⟩
       rw [List.mapM_cons]
       simp only [Sem.run_bind,q1,Result.andThen_ok,g1,Sem.run_pure]
     · cases hx
 obtain ⟨vs,h1,h2⟩:=key _ xs hx
 rw [results_eq,Array.mapM_eq_mapM_toList]
 have hl:=h2.length
 simp only [Sem.run_bind,Sem.run_map,h1,Result.andThen_ok,Sem.run_pure]
 match vs,xs,hl,h2 with
 | [v],[x],_,h2 =>
   refine ⟨v,by simp, ?_⟩
   simp only [RepL] at h2
   obtain ⟨_,_,he,hx,_⟩:=h2
   cases he
   exact hx
 | [],[],_,h2=>exact ⟨.tuple #[],by simp,by simp only [pack,Rep]; exact ⟨_,rfl,h2⟩⟩
 | v :: u :: vs,x :: y :: xs,_,h2=>exact ⟨.tuple (v :: u :: vs).toArray,by simp,by simp only [pack,Rep]; exact ⟨_,rfl,h2⟩⟩
def expF (exp : List Nat) (H : NL ABlk) (i g : Nat) : Option (Nat × Nat) :=
 match exp.idxOf? i with
 | some k=>match lk H i with
   | some b=>if b.gen = g then some (k,0) else none
   | none=>none
 | none=>none
def expB (H : NL ABlk) (i : Nat) : Option ABlk :=
 match lk H i with
 | some b=>if b.inl = true ∧ b.kind = 2 then some { b with gen:=0 } else none
 | none=>none
def RetQ (P : Program) (fn : Func) (r : AV) (B : List ABlk) (e : Exit) (σ : AS) : Prop :=
 (e = .normal ∨ e = .ret) ∧ ∃ xs,resVs P σ fn.results.toList = some xs ∧
   ((B = [] ∧ ∃ out,(frzT (pack xs) .ret).run σ.heap = some out ∧ out.val = r ∧ inlT r = true) ∨
    (∃ exp : List Nat,exp.Nodup ∧ exp.map (expB σ.heap) = B.map some ∧ r = (pack xs).ren (expF exp σ.heap)))
theorem export_env {E0 E : Env} (hE0 : E0.H = fun _ => none) {H : NL ABlk} (hH : E.H = lk H) (hr : HR E) (hs : Step E0 E) {exp : List Nat} (hnd : exp.Nodup) {B : List ABlk} (hB : exp.map (expB H) = B.map some) :
   ∃ E',E'.w = E.w ∧ E'.H = (fun i=>B[i]?) ∧ HR E' ∧ Step E0 E' ∧ RenOK (expF exp H) E E':=by
 have hlen : exp.length = B.length:=by have:=congrArg List.length hB; simpa using this
 have hget : ∀ (i : Nat) (b : ABlk),B[i]? = some b → ∃ (id : Nat) (b0 : ABlk),exp[i]? = some id ∧ lk H id = some b0 ∧ b0.inl = true ∧ b0.kind = 2 ∧ b = { b0 with gen:=0 }:=by
   intro i b hb
   have hi : i < exp.length:=by rw [hlen]; exact (List.getElem?_eq_some_iff.1 hb).1
   have h1 : (exp.map (expB H))[i]? = some (some b):=by rw [hB,List.getElem?_map,hb]; rfl
   rw [List.getElem?_map,List.getElem?_eq_getElem hi,Option.map_some,Option.some.injEq] at h1
   refine ⟨exp[i], ?_⟩
   unfold expB at h1
   split at h1
   · rename_i b0 hb0
     split at h1
     · rename_i hc
       simp only [Option.some.injEq] at h1
       exact ⟨b0,List.getElem?_eq_getElem hi,hb0,hc.1,hc.2,h1.symm⟩
     · cases h1
   · cases h1
 let φ' : Nat → Nat:=fun i=>E.φ (exp.getD i 0)
 let cs' : Nat → Nat:=fun i=>E.cs (exp.getD i 0)
 have hφ : ∀ (i id : Nat),exp[i]? = some id → φ' i = E.φ id ∧ cs' i = E.cs id:=fun i id h=>by simp [φ',cs',List.getD_eq_getElem?_getD,h]
 have himm : ∀ b,E.imm b → (Env.mk E.w (fun i=>B[i]?) φ' cs' E.F).imm b:=by
   intro b hb
   refine ⟨hb.1,hb.2.1,fun i blk hbk hk hc he=>?_⟩
   obtain ⟨id,b0,h1,h2,h3,h4,rfl⟩:=hget i blk hbk
   obtain ⟨e1,e2⟩:=hφ i id h1
   exact hb.2.2 id b0 (by rw [hH]; exact h2) (by omega) (by simpa only [e2] using hc) (by simpa only [e1] using he)
 have hold : ∀ b,b < E0.w.heap.size → E.w.heap[b]? = E0.w.heap[b]?:=fun b hb=>hs.old b hb (fun id blk h=>by simp [hE0] at h)
 refine ⟨⟨E.w,fun i=>B[i]?, φ',cs',E.F⟩,rfl,rfl,⟨fun i b hb=>?_,fun i j bi bj hi hj ki kj ci cj hne=>?_,fun i b hb hk hc=>?_,hr.fb⟩,⟨hs.size,fun b hb _=>hold b hb,hs.fo,fun id blk h=>by simp [hE0] at h,fun i b hb hk hc=>?_,hs.kept⟩,⟨rfl,himm,fun i g i' g' he blk hb hg=>?_,fun i g i' g' he=>?_⟩⟩
 · obtain ⟨id,b0,h1,h2,h3,h4,rfl⟩:=hget i b hb
   obtain ⟨e1,e2⟩:=hφ i id h1
   obtain ⟨C,c1,c2,c3,c4,c5,c6⟩:=hr.cells (id:=id) (blk:=b0) (by rw [hH]; exact h2) (.inr h4)
   refine BlkOK.mk_cells (.inr h4) ⟨C,fun hp=>by simp only [e1]; exact c1 (by simpa only [e2] using hp),by simp only [e2]; exact c2,c3,c4,c5,fun r row j x q1 q2=>?_⟩
   obtain ⟨u,d1,d2,d3⟩:=c6 r row j x q1 q2
   rw [h3] at d3
   refine ⟨u,d1,d2, ?_⟩
   show CellR _ b0.inl x u
   rw [h3]
   exact RepI.mono (fun b hb=>⟨himm b hb,rfl⟩) _ _ d3
 · obtain ⟨id1,b1,p1,p2,p3,p4,rfl⟩:=hget i bi hi
   obtain ⟨id2,b2,q1,q2,q3,q4,rfl⟩:=hget j bj hj
   obtain ⟨e1,e2⟩:=hφ i id1 p1
   obtain ⟨e3,e4⟩:=hφ j id2 q1
   simp only at ci cj ⊢
   rw [e1,e3]
   refine hr.inj id1 id2 b1 b2 (by rw [hH]; exact p2) (by rw [hH]; exact q2) (by omega) (by omega) (by rw [← e2]; exact ci) (by rw [← e4]; exact cj) (fun e=>hne ?_)
   subst e
   have hi':=(List.getElem?_eq_some_iff.1 p1).1
   exact (List.getElem?_inj hi' hnd).1 (by rw [p1,q1])
 · obtain ⟨id,b0,h1,h2,h3,h4,rfl⟩:=hget i b hb
   obtain ⟨e1,e2⟩:=hφ i id h1
   simp only at hc ⊢
   rw [e1]
   exact hr.nf id b0 (by rw [hH]; exact h2) (by omega) (by rw [← e2]; exact hc)
 · right
   obtain ⟨id,b0,h1,h2,h3,h4,rfl⟩:=hget i b hb
   obtain ⟨e1,e2⟩:=hφ i id h1
   simp only at hc ⊢
   rw [e1]
   rcases hs.live id b0 (by rw [hH]; exact h2) (by omega) (by rw [← e2]; exact hc) with ⟨_,blk,hb0,_⟩ | hge
   · simp [hE0] at hb0
   · exact hge
 · unfold expF at he
   split at he
   · rename_i k hk
     split at he
     · rename_i b0 hb0
       split at he
       · simp only [Option.some.injEq,Prod.mk.injEq] at he
         obtain ⟨rfl,rfl⟩:=he
         rw [hH] at hb
         rw [hb0] at hb; cases hb
         have hkl : exp[k]? = some i:=by
           rw [List.idxOf?_eq_some_iff] at hk
           obtain ⟨h1,h2,_⟩:=hk
           rw [List.getElem?_eq_getElem h1]
           simpa using h2
         obtain ⟨e1,e2⟩:=hφ k i hkl
         have hkB : k < B.length:=by rw [← hlen]; exact (List.getElem?_eq_some_iff.1 hkl).1
         obtain ⟨id,b1,h1,h2,h3,h4,h5⟩:=hget k _ (List.getElem?_eq_getElem hkB)
         rw [hkl] at h1; cases h1
         rw [hb0] at h2; cases h2
         refine ⟨B[k],List.getElem?_eq_getElem hkB,by rw [h5],by rw [h5],by rw [h5],e1,e2⟩
       · cases he
     · cases he
   · cases he
 · unfold expF at he
   split at he
   · split at he
     · rename_i b0 hb0
       split at he
       · rename_i hg
         exact ⟨b0,by rw [hH]; exact hb0,hg⟩
       · cases he
     · cases he
   · cases he
def init (fn : Func) (args : List AV) : AS := { n := args.length + (fn.ntmps - args.length),tmps := num 0 args,heap := [] }
theorem FnC.intro {P : Program} {specs : FuncId → Option Spec} (hm : P.follows .mixedOrders = true) (hsp : ∀ f s,specs f = some s → FnC P f s.fn) {f : FuncId} {fn : Func} {body : Code}
   (hf : P.funcs[f]? = some fn) (hb : fn.body = some body) (hname : (fn.name == "runtime.NumGoroutine") = false) {S : List AV → Option (AV × List ABlk)}
   (h : ∀ args r B,S args = some (r,B) → awp P specs body (RetQ P fn r B) (init fn args)) : FnC P f (fun args B=>match B with
     | []=>S args
     | _=>none):=by
 refine ⟨⟨fn,hf,hname,by simp [hb]⟩,fun args B r B' hS E vs hH hr hx=>?_⟩
 cases B with
 | cons b bs=>simp at hS
 | nil =>
   simp only at hS
   have hE0 : E.H = fun _=>none:=by rw [hH]; funext i; simp
   have hsz : vs.size = args.length:=by have:=hx.length; simpa using this
   have hsr : SR (init fn args) { tmps:=vs ++ Array.replicate (fn.ntmps - vs.size) undef,defers:=[] } E:=by
     refine ⟨by rw [hE0]; funext i; simp [init,lk],hr,rfl,by simp [init,hsz],fun t x ht=>?_⟩
     simp only [init,lk_num,Nat.zero_le,if_true,Nat.sub_zero] at ht
     obtain ⟨v,hv,hxv⟩:=hx.get ht
     refine ⟨v, ?_,hxv⟩
     have hlt : t < vs.size:=by rw [hsz]; exact (List.getElem?_eq_some_iff.1 ht).1
     rw [Array.getElem?_append_left hlt]
     simpa using hv
   refine calls_of_wp hf hb (wp_mono (awp_sound hm hsp body hsr (h args r B' hS)) fun e a' w' hp=>?_)
   obtain ⟨σ',E1,rfl,h1,h2,he,xs,hxs,hret⟩:=hp
   obtain ⟨v,g1,g2⟩:=resVs_run h1 hxs
   have hfin : ∃ v E',(results fn a'.tmps).run P E1.w = .ok v E1.w ∧ E'.w = E1.w ∧ E'.H = (fun i=>B'[i]?) ∧ HR E' ∧ Step E E' ∧ Rep E' r v:=by
     rcases hret with ⟨rfl,out,q1,rfl,q3⟩ | ⟨exp,q1,q2,rfl⟩
     · obtain ⟨E2,k1,k2,k3,k4⟩:=frzT_run h1.heap h1.hr g2 q1
       have hi:=inlT_rep q3 k4
       have hs:=h2.trans k3
       have hold : ∀ b,b < E.w.heap.size → E2.w.heap[b]? = E.w.heap[b]?:=fun b hb=>hs.old b hb (fun id blk h=>by simp [hE0] at h)
       refine ⟨v,⟨E2.w,fun _=>none,E2.φ,E2.cs,E2.F⟩,g1,k1,by funext i; simp,⟨fun _ _ h=>by simp at h,fun _ _ _ _ h=>by simp at h,fun _ _ h=>by simp at h,k2.fb⟩,⟨hs.size,fun b hb _=>hold b hb,hs.fo,fun id blk h=>by simp [hE0] at h,fun _ _ h=>by simp at h,hs.kept⟩, ?_⟩
       exact RepI.rep _ _ (RepI.mono (fun b hb=>⟨⟨hb.1,hb.2.1,fun _ _ h=>by simp at h⟩,rfl⟩) _ _ hi)
     · obtain ⟨E',k1,k2,k3,k4,k5⟩:=export_env hE0 h1.heap h1.hr h2 q1 q2
       exact ⟨v,E',g1,k1,k2,k3,k4,ren_rep k5 _ _ g2⟩
   obtain ⟨v',E',r1,r2,r3,r4,r5,r6⟩:=hfin
   have hfinal : bodyPost P fn (fun e w' => ∃ v E',e = .returned v ∧ E'.w = w' ∧ E'.H = (fun i=>B'[i]?) ∧ HR E' ∧ Step E E' ∧ Rep E' r v) .ret a' E1.w :=
     ⟨h1.defers,v',r1,v',E',rfl,r2,r3,r4,r5,r6⟩
   rcases he with rfl | rfl
   · exact hfinal
   · exact hfinal
end
end Go.Abs
