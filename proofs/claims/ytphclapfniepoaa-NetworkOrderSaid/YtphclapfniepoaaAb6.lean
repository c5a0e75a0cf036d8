/- A region whose order is drawn: what its operations may look at decides that the order is nothing. Conditions: none. -/
import Derived.Test.YtphclapfniepoaaAb5
import Derived.LoopN
import Derived.Scope
import Derived.IntWalk
namespace Go.Abs
open Go
section
theorem AP.run_local {α : Type} : ∀ (p : AP α) (H H2 : NL ABlk) (o : Out α),p.run H = some o → (∀ id ∈ o.rd,lk H id = lk H2 id) →
   ∃ H3,p.run H2 = some { o with H:=H3 } ∧ (∀ id,lk H3 id = if id ∈ o.wr then lk o.H id else lk H2 id) ∧ ∀ id,id ∉ o.wr → lk o.H id = lk H id
 | .ret a,H,H2,o,h,_=>by
   simp only [AP.run,Option.some.injEq] at h
   subst h
   exact ⟨H2,rfl,by simp,by simp⟩
 | .fail,_,_,_,h,_=>by simp [AP.run] at h
 | .get id k,H,H2,o,h,hr=>by
   have key : ∀ b o1,(lk H id).getD {} = b → (k b).run H = some o1 → o = { o1 with rd:=id :: o1.rd } → ∃ H3,(AP.get id k).run H2 = some { o with H:=H3 } ∧ (∀ id,lk H3 id = if id ∈ o.wr then lk o.H id else lk H2 id) ∧ ∀ id,id ∉ o.wr → lk o.H id = lk H id:=by
     intro b o1 hb h1 e
     subst e
     obtain ⟨H3,q1,q2,q3⟩:=AP.run_local (k b) H H2 o1 h1 (fun i hi=>hr i (by simp [hi]))
     refine ⟨H3, ?_,q2,q3⟩
     have hid : lk H2 id = lk H id:=(hr id (by simp)).symm
     simp only [AP.run,hid]
     cases hl : lk H id with
     | none=>simp [hl] at hb; subst hb; simp [q1]
     | some b'=>simp [hl] at hb; subst hb; simp [q1]
   simp only [AP.run] at h
   cases hl : lk H id with
   | none =>
     simp only [hl] at h
     split at h
     · rename_i o1 h1
       simp only [Option.some.injEq] at h
       exact key {} o1 (by simp [hl]) h1 h.symm
     · cases h
   | some b =>
     simp only [hl] at h
     split at h
     · rename_i o1 h1
       simp only [Option.some.injEq] at h
       exact key b o1 (by simp [hl]) h1 h.symm
     · cases h
 | .put id b k,H,H2,o,h,hr=>by
   simp only [AP.run] at h
   split at h
   · rename_i o1 h1
     simp only [Option.some.injEq] at h
     subst h
     obtain ⟨H3,q1,q2,q3⟩:=AP.run_local k (st H id b) (st H2 id b) o1 h1 (fun i hi=>by
       simp only [lk_st]; split
       · rfl
       · exact hr i hi)
     refine ⟨H3,by simp only [AP.run,q1],fun i=>?_,fun i hi=>?_⟩
     · rw [q2 i,lk_st]
       by_cases e1 : i ∈ o1.wr
       · simp [e1]
       · by_cases e2 : id = i
         · subst e2
           have:=q3 id e1
           rw [lk_st,if_pos rfl] at this
           simp [e1,this]
         · have e3 : ¬ i = id:=fun h=>e2 h.symm
           simp only [List.mem_cons,e1,e3,or_self,if_false,e2]
     · simp only [List.mem_cons,not_or] at hi
       rw [q3 i hi.2,lk_st,if_neg (fun e=>hi.1 e.symm)]
   · cases h
 | .asm p k,H,H2,o,h,hr=>by
   simp only [AP.run] at h
   split at h
   · rename_i o1 h1
     simp only [Option.some.injEq] at h
     subst h
     obtain ⟨H3,q1,q2,q3⟩:=AP.run_local k H H2 o1 h1 hr
     exact ⟨H3,by simp only [AP.run,q1],q2,q3⟩
   · cases h
theorem map_congr_op {ρ ρ' : Operand → AV} {xs : Array Operand} (h : ∀ x ∈ xs.toList, ρ x = ρ' x) : xs.toList.map ρ = xs.toList.map ρ' := List.map_congr_left h
theorem opC_congr {P : Program} {specs : FuncId → Option Spec} {ρ ρ' : Operand → AV} {dst : Nat} {op : Op} (h : ∀ x ∈ op.operands.toList, ρ x = ρ' x) : opC P specs ρ dst op = opC P specs ρ' dst op := by
 have pairs : ∀ ps : Array (Nat × Operand),(∀ x ∈ (ps.toList.map (·.2)), ρ x = ρ' x) → (ps.toList.map fun p=>(p.1, ρ p.2)) = (ps.toList.map fun p=>(p.1, ρ' p.2)):=fun ps hp =>
   List.map_congr_left fun p hm=>by rw [hp p.2 (List.mem_map.2 ⟨p,hm,rfl⟩)]
 cases op with
 | call c =>
   obtain ⟨callee,args,ts⟩:=c
   have ha : ∀ x ∈ args.toList, ρ x = ρ' x:=fun x hx=>h x (by simp [Op.operands,Call.operands]; right; simpa using hx)
   have hm : args.toList.map ρ = args.toList.map ρ':=map_congr_op ha
   cases callee with
   | value fx =>
     have hf : ρ fx = ρ' fx:=h fx (by simp [Op.operands,Call.operands])
     simp only [opC,hf,hm]
   | builtin b=>simp only [opC,hm]
   | invoke r m=>rfl
 | build t ps=>simp only [opC,opA]; rw [pairs ps (fun x hx=>h x (by simpa [Op.operands] using hx))]
 | buildSlice t n ps=>simp only [opC,opA]; rw [pairs ps (fun x hx=>h x (by simpa [Op.operands] using hx))]
 | makeFunc fn first caps =>
   simp only [opC,opA]
   rw [map_congr_op (xs:=first) (fun x hx=>h x (by simp [Op.operands]; left; simpa using hx)),map_congr_op (xs:=caps) (fun x hx=>h x (by simp [Op.operands]; right; simpa using hx))]
 | makeMap t r =>
   cases r with
   | none=>rfl
   | some y=>rfl
 | slice t x lo hi mx =>
   cases mx with
   | some m =>
     have h1 : ρ x = ρ' x:=h x (by simp [Op.operands])
     have h2 : lo.map ρ = lo.map ρ':=by cases lo with
       | none=>rfl
       | some y=>simp only [Option.map_some]; rw [h y (by simp [Op.operands])]
     have h3 : hi.map ρ = hi.map ρ':=by cases hi with
       | none=>rfl
       | some y=>simp only [Option.map_some]; rw [h y (by simp [Op.operands])]
     have h4 : ρ m = ρ' m:=h m (by simp [Op.operands])
     simp only [opC,opA,h1,h2,h3,h4]
   | none =>
     have h1 : ρ x = ρ' x:=h x (by simp [Op.operands])
     have h2 : lo.map ρ = lo.map ρ':=by cases lo with
       | none=>rfl
       | some y=>simp only [Option.map_some]; rw [h y (by simp [Op.operands])]
     have h3 : hi.map ρ = hi.map ρ':=by cases hi with
       | none=>rfl
       | some y=>simp only [Option.map_some]; rw [h y (by simp [Op.operands])]
     simp only [opC,opA,h1,h2,h3]
 | _=>simp only [opC,opA] <;> (simp only [Op.operands] at h) <;> simp_all
structure Eqv (σ τ : AS) : Prop where
 n : σ.n = τ.n
 tmps : ∀ t,lk σ.tmps t = lk τ.tmps t
 heap : ∀ id,lk σ.heap id = lk τ.heap id
theorem Eqv.refl (σ : AS) : Eqv σ σ := ⟨rfl,fun _ => rfl,fun _ => rfl⟩
theorem Eqv.symm {σ τ : AS} (h : Eqv σ τ) : Eqv τ σ := ⟨h.n.symm,fun t => (h.tmps t).symm,fun i => (h.heap i).symm⟩
theorem Eqv.trans {σ τ υ : AS} (h : Eqv σ τ) (g : Eqv τ υ) : Eqv σ υ := ⟨h.n.trans g.n,fun t => (h.tmps t).trans (g.tmps t),fun i => (h.heap i).trans (g.heap i)⟩
theorem SR.eqv {σ τ : AS} {a : Act} {E : Env} (h : SR σ a E) (e : Eqv σ τ) : SR τ a E :=
 ⟨by rw [h.heap]; exact funext e.heap,h.hr,h.defers,by rw [h.size,e.n],fun t x ht=>h.tmps t x (by rw [e.tmps]; exact ht)⟩
theorem putA_local {σ τ : AS} {dst : Option Nat} {x : AV} {ts : NL AV} (hn : τ.n = σ.n) (h : putA σ dst x = some ts) :
   ∃ ts',putA τ dst x = some ts' ∧ ∀ t,lk ts' t = if dst = some t then lk ts t else lk τ.tmps t:=by
 cases dst with
 | none=>exact ⟨τ.tmps,rfl,by simp⟩
 | some d =>
   simp only [putA] at h ⊢
   rw [hn]
   split at h
   · rename_i hd
     rw [if_pos hd]
     simp only [Option.some.injEq] at h
     subst h
     refine ⟨_,rfl,fun t=>?_⟩
     simp only [lk,Option.some.injEq]
     split <;> rfl
   · cases h
theorem stepA_local {P : Program} {specs : FuncId → Option Spec} {kk : Nat} {ops : Array Oper} {σ σ1 τ : AS} {o : Oper} {fp : FP} (h : stepA P specs kk ops σ o = some (σ1,fp)) (hn : τ.n = σ.n)
   (ht : ∀ t ∈ o.looksAt ops,lk σ.tmps t = lk τ.tmps t) (hh : ∀ id ∈ fp.rd,lk σ.heap id = lk τ.heap id) :
   ∃ τ1,stepA P specs kk ops τ o = some (τ1,fp) ∧ τ1.n = τ.n ∧ (∀ t,lk τ1.tmps t = if o.dst = some t then lk σ1.tmps t else lk τ.tmps t) ∧ ∀ id,lk τ1.heap id = if id ∈ fp.wr then lk σ1.heap id else lk τ.heap id:=by
 have hev : ∀ x ∈ o.op.operands.toList, σ.ev x = τ.ev x:=by
   intro x hx
   cases x with
   | tmp t =>
     simp only [AS.ev]
     rw [ht t (by simp only [Oper.looksAt,List.mem_append,List.mem_filterMap]; left; exact ⟨.tmp t,hx,rfl⟩)]
   | _=>rfl
 have exec : execA P specs kk σ o = some (σ1,fp) → ∃ τ1,execA P specs kk τ o = some (τ1,fp) ∧ τ1.n = τ.n ∧ (∀ t,lk τ1.tmps t = if o.dst = some t then lk σ1.tmps t else lk τ.tmps t) ∧ ∀ id,lk τ1.heap id = if id ∈ fp.wr then lk σ1.heap id else lk τ.heap id:=by
   intro he
   unfold execA at he ⊢
   rw [← opC_congr (P:=P) (specs:=specs) (dst:=o.dst.getD 0 + kk) hev]
   split at he
   · rename_i out ho
     split at he
     · rename_i ts hts
       simp only [Option.some.injEq,Prod.mk.injEq] at he
       obtain ⟨rfl,rfl⟩:=he
       obtain ⟨H3,q1,q2,_⟩:=AP.run_local _ _ τ.heap _ ho hh
       obtain ⟨ts',p1,p2⟩:=putA_local hn hts
       rw [q1]
       simp only [p1]
       exact ⟨_,rfl,rfl,p2,q2⟩
     · cases he
   · cases he
 have skip : skipA σ o = some (σ1,fp) → ∃ τ1,skipA τ o = some (τ1,fp) ∧ τ1.n = τ.n ∧ (∀ t,lk τ1.tmps t = if o.dst = some t then lk σ1.tmps t else lk τ.tmps t) ∧ ∀ id,lk τ1.heap id = if id ∈ fp.wr then lk σ1.heap id else lk τ.heap id:=by
   intro he
   unfold skipA at he ⊢
   split at he
   · rename_i ts hts
     simp only [Option.some.injEq,Prod.mk.injEq] at he
     obtain ⟨rfl,rfl⟩:=he
     obtain ⟨ts',p1,p2⟩:=putA_local hn hts
     simp only [p1]
     exact ⟨_,rfl,rfl,p2,by simp⟩
   · cases he
 unfold stepA at h ⊢
 cases hg : o.guard with
 | none =>
   simp only [hg] at h ⊢
   exact exec h
 | some p =>
   obtain ⟨j,want⟩:=p
   simp only [hg] at h ⊢
   cases hd : gdst ops j with
   | none=>simp [hd] at h
   | some d =>
     simp only [hd] at h ⊢
     have hl : lk σ.tmps d = lk τ.tmps d:=ht d (by
       simp only [Oper.looksAt,hg,List.mem_append]
       right
       unfold gdst at hd
       simp [hd])
     rw [← hl]
     split at h
     · rename_i b hb
       split at h
       · rename_i e; simp only [e,if_true]; exact exec h
       · rename_i e; simp only [e,if_false]; exact skip h
     · exact skip h
     · cases h
section
variable {P : Program} {specs : FuncId → Option Spec} {kk : Nat} {ops : Array Oper}
def Runs (P : Program) (specs : FuncId → Option Spec) (kk : Nat) (ops : Array Oper) (Φ : Nat → FP) : List Nat → AS → AS → Prop
 | [], σ, σ'=>Eqv σ σ'
 | i :: L, σ, σ' => ∃ o σ1,ops[i]? = some o ∧ stepA P specs kk ops σ o = some (σ1, Φ i) ∧ Runs P specs kk ops Φ L σ1 σ'
theorem Runs.congr {Φ : Nat → FP} : ∀ {L : List Nat} {σ τ σ' : AS},Eqv σ τ → Runs P specs kk ops Φ L σ σ' → Runs P specs kk ops Φ L τ σ'
 | [], σ, τ, σ',e,h=>e.symm.trans h
 | i :: L, σ, τ, σ',e,⟨o, σ1,ho,hs,h⟩=>by
   obtain ⟨τ1,q1,q2,q3,q4⟩:=stepA_local hs e.n.symm (fun t _=>e.tmps t) (fun id _=>e.heap id)
   refine ⟨o, τ1,ho,q1,Runs.congr ?_ h⟩
   obtain ⟨σ2,r1,r2,r3,r4⟩:=stepA_local (τ := σ) hs rfl (fun t _=>rfl) (fun id _=>rfl)
   rw [hs] at r1; cases r1
   refine ⟨by rw [r2,q2,e.n],fun t=>?_,fun id=>?_⟩
   · rw [q3]
     split
     · rfl
     · rename_i q; rw [r3,if_neg q]; exact e.tmps t
   · rw [q4]
     split
     · rfl
     · rename_i q; rw [r4,if_neg q]; exact e.heap id
structure Indep (ops : Array Oper) (Φ : Nat → FP) (i j : Nat) : Prop where
 apart : ∀ oi oj,ops[i]? = some oi → ops[j]? = some oj → oi.apart ops oj = true
 ij : ∀ id ∈ (Φ i).wr,id ∉ (Φ j).rd ∧ id ∉ (Φ j).wr
 ji : ∀ id ∈ (Φ j).wr,id ∉ (Φ i).rd
theorem Runs.swap {Φ : Nat → FP} {i j : Nat} {L : List Nat} {σ σ' : AS} (hi : Indep ops Φ i j) (h : Runs P specs kk ops Φ (i :: j :: L) σ σ') : Runs P specs kk ops Φ (j :: i :: L) σ σ' := by
 obtain ⟨oi, σ1,ho1,hs1,oj, σ2,ho2,hs2,h⟩:=h
 obtain ⟨a1,a2,a3⟩:=Oper.apart_spec (hi.apart oi oj ho1 ho2)
 obtain ⟨σ1',f1,f2,f3,f4⟩:=stepA_local (τ := σ) hs1 rfl (fun t _=>rfl) (fun id _=>rfl)
 rw [hs1] at f1; cases f1
 obtain ⟨σ2',g1,g2,g3,g4⟩:=stepA_local (τ := σ1) hs2 rfl (fun t _=>rfl) (fun id _=>rfl)
 rw [hs2] at g1; cases g1
 obtain ⟨τ1,q1,q2,q3,q4⟩:=stepA_local (τ := σ) hs2 f2.symm
   (fun t ht=>by
     have e : ¬ oi.dst = some t:=fun e=>a1 t e ht
     rw [f3,if_neg e])
   (fun id hid=>by
     have e : ¬ id ∈ (Φ i).wr:=fun e=>(hi.ij id e).1 hid
     rw [f4,if_neg e])
 obtain ⟨τ2,r1,r2,r3,r4⟩:=stepA_local (τ := τ1) hs1 q2
   (fun t ht=>by
     have e : ¬ oj.dst = some t:=fun e=>a3 t e ht
     rw [q3,if_neg e])
   (fun id hid=>by
     have e : ¬ id ∈ (Φ j).wr:=fun e=>hi.ji id e hid
     rw [q4,if_neg e])
 refine ⟨oj, τ1,ho2,q1,oi, τ2,ho1,r1,Runs.congr ⟨by rw [g2,f2,r2,q2],fun t=>?_,fun id=>?_⟩ h⟩
 · rw [r3,q3]
   by_cases e1 : oi.dst = some t
   · have e2 : ¬ oj.dst = some t:=a2 t e1
     rw [if_pos e1,g3 t,if_neg e2]
   · rw [if_neg e1]
     by_cases e2 : oj.dst = some t
     · rw [if_pos e2]
     · rw [if_neg e2,g3 t,if_neg e2,f3 t,if_neg e1]
 · rw [r4,q4]
   by_cases e1 : id ∈ (Φ i).wr
   · have e2:=(hi.ij id e1).2
     rw [if_pos e1,g4 id,if_neg e2]
   · rw [if_neg e1]
     by_cases e2 : id ∈ (Φ j).wr
     · rw [if_pos e2]
     · rw [if_neg e2,g4 id,if_neg e2,f4 id,if_neg e1]
theorem Runs.move {Φ : Nat → FP} {i : Nat} {L2 : List Nat} : ∀ {L1 : List Nat} {σ σ' : AS},(∀ x ∈ L1,Indep ops Φ x i) → Runs P specs kk ops Φ (L1 ++ i :: L2) σ σ' → Runs P specs kk ops Φ (i :: (L1 ++ L2)) σ σ'
 | [],_,_,_,h=>h
 | x :: L1, σ, σ',hi,h=>by
   obtain ⟨o, σ1,ho,hs,h⟩:=h
   have h1:=Runs.move (L1:=L1) (fun y hy=>hi y (by simp [hy])) h
   exact Runs.swap (hi x (by simp)) ⟨o, σ1,ho,hs,h1⟩
def unl (n : Nat) (listed : Array Bool) : List Nat := (List.range n).filter fun i => !listed.getD i true
theorem set_getD {listed : Array Bool} {i : Nat} (hi : i < listed.size) (x : Nat) : (listed.setIfInBounds i true).getD x true = if x = i then true else listed.getD x true := by
 rw [Array.getD_eq_getD_getElem?,Array.getD_eq_getD_getElem?,Array.getElem?_setIfInBounds]
 by_cases e : i = x
 · subst e; simp [hi]
 · have e' : ¬ x = i:=fun h=>e h.symm
   rw [if_neg e,if_neg e']
theorem mem_unl {n : Nat} {listed : Array Bool} {x : Nat} : x ∈ unl n listed ↔ x < n ∧ listed.getD x true = false := by
 unfold unl
 rw [List.mem_filter,List.mem_range,Bool.not_eq_eq_eq_not,Bool.not_true]
theorem unl_split {n : Nat} {listed : Array Bool} {i : Nat} (hsz : listed.size = n) (hi : i < n) (hu : listed.getD i true = false) :
   ∃ L1 L2,unl n listed = L1 ++ i :: L2 ∧ unl n (listed.setIfInBounds i true) = L1 ++ L2 ∧ ∀ x ∈ L1,x < i ∧ listed.getD x true = false:=by
 have hr : List.range n = List.range i ++ i :: (List.range' (i + 1) (n - i - 1)):=by
   rw [List.range_eq_range',List.range_eq_range',show n = i + (1 + (n - i - 1)) from by omega, ← List.range'_append_1, ← List.range'_append_1]
   simp
 have hset:=set_getD (listed:=listed) (i:=i) (by omega)
 refine ⟨(List.range i).filter fun x => !listed.getD x true,(List.range' (i + 1) (n - i - 1)).filter fun x => !listed.getD x true, ?_, ?_,fun x hx=>?_⟩
 · simp only [unl]
   rw [hr,List.filter_append,List.filter_cons,if_pos (by simp [hu])]
 · simp only [unl]
   rw [hr,List.filter_append,List.filter_cons,if_neg (by simp [hset])]
   congr 1
   · refine List.filter_congr fun x hx=>?_
     have : x < i:=by simpa using hx
     rw [hset,if_neg (by omega)]
   · refine List.filter_congr fun x hx=>?_
     have:=(List.mem_range'_1.1 hx).1
     rw [hset,if_neg (by omega)]
 · simp only [List.mem_filter,List.mem_range,Bool.not_eq_eq_eq_not,Bool.not_true] at hx
   exact hx
def binds (o : Oper) (j : Nat) : Prop := ∃ e ∈ o.after.toList,Region.binds .any e = true ∧ e.on = j
theorem any_wp (hsp : ∀ f s,specs f = some s → FnC P f s.fn) {Φ : Nat → FP} {Q : Exit → Act → World → Prop} {σ' : AS} {B : Nat → Nat → Prop}
   (hedge : ∀ i o,ops[i]? = some o → ∀ j,binds o j → j < i) (hB : ∀ i x,B x i → ∃ o,ops[i]? = some o ∧ ∃ j,binds o j ∧ (x = j ∨ B x j))
   (hind : ∀ x i,x < i → i < ops.size → B x i ∨ Indep ops Φ x i) :
   ∀ (fuel : Nat) (listed : Array Bool) {σ : AS} {a : Act} {E : Env},SR σ a E → listed.size = ops.size → (∀ i o,ops[i]? = some o → listed.getD i true = true → ∀ j,binds o j → listed.getD j true = true) →
     (unl ops.size listed).length ≤ fuel → Runs P specs kk ops Φ (unl ops.size listed) σ σ' → ((∀ i ∈ unl ops.size listed,(Φ i).as) → ∀ a' E',SR σ' a' E' → Step E E' → Q .normal a' E'.w) →
     wpAny P .any ops Q fuel listed a E.w:=by
 have done : ∀ (listed : Array Bool) {σ : AS} {a : Act} {E : Env},SR σ a E → unl ops.size listed = [] → Runs P specs kk ops Φ (unl ops.size listed) σ σ' → ((∀ i ∈ unl ops.size listed,(Φ i).as) → ∀ a' E',SR σ' a' E' → Step E E' → Q .normal a' E'.w) → Q .normal a E.w:=by
   intro listed σ a E h hu hr hq
   rw [hu] at hr hq
   exact hq (by simp) a E (h.eqv hr) (Step.refl E)
 have prog : ∀ (listed : Array Bool),listed.size = ops.size → Region.ready .any ops listed = [] → unl ops.size listed = []:=by
   intro listed hsz hready
   cases hu : unl ops.size listed with
   | nil=>rfl
   | cons i L =>
     exfalso
     have hmem : i ∈ unl ops.size listed:=by rw [hu]; simp
     have hi : i < ops.size ∧ listed.getD i true = false:=mem_unl.1 hmem
     have hmin : ∀ j,j < i → listed.getD j true = true:=by
       intro j hj
       by_cases hjl : listed.getD j true = true
       · exact hjl
       · exfalso
         have hjm : listed.getD j true = false:=by simpa using hjl
         obtain ⟨L1,L2,h1,_,h3⟩:=unl_split hsz hi.1 hi.2
         have hjmem : j ∈ unl ops.size listed:=mem_unl.2 ⟨by omega,hjm⟩
         rw [hu] at h1 hjmem
         cases L1 with
         | nil =>
           simp only [List.nil_append,List.cons.injEq,true_and] at h1
           simp only [List.mem_cons] at hjmem
           rcases hjmem with e | e
           · omega
           · -- later elements are greater
             have hs : (unl ops.size listed).Pairwise (· < ·):=List.Pairwise.filter _ (by rw [List.range_eq_range']; exact List.pairwise_lt_range')
             rw [hu,List.pairwise_cons] at hs
             have:=hs.1 j e
             omega
         | cons y L1 =>
           simp only [List.cons_append,List.cons.injEq] at h1
           obtain ⟨rfl,_⟩:=h1
           have:=(h3 i (by simp)).1
           omega
     have hr : i ∈ Region.ready .any ops listed:=by
       simp only [Region.ready,List.mem_filter,List.mem_range]
       refine ⟨hi.1, ?_⟩
       have ho : ops[i]? = some ops[i]:=by simp [hi.1]
       rw [Array.getD_eq_getD_getElem?] at *
       simp only [hi.2,Bool.not_false,Bool.true_and,ho,Option.map_some,Option.getD_some]
       rw [← Array.all_toList,List.all_eq_true]
       intro e he
       cases hb : Region.binds .any e with
       | false=>simp
       | true =>
         have hlt:=hedge i _ ho e.on ⟨e,he,hb,rfl⟩
         have:=hmin e.on hlt
         have hin : e.on < listed.size:=by omega
         rw [Array.getD_eq_getD_getElem?] at this ⊢
         simp only [Array.getElem?_eq_getElem hin,Option.getD_some] at this ⊢
         simp [this]
     rw [hready] at hr
     cases hr
 intro fuel
 induction fuel with
 | zero =>
   intro listed σ a E h hsz hdc hl hr hq
   have hu : unl ops.size listed = []:=List.eq_nil_of_length_eq_zero (by omega)
   refine ⟨?_,done listed h hu hr hq⟩
   cases hrd : Region.ready .any ops listed with
   | nil=>rfl
   | cons i L =>
     exfalso
     have : i ∈ Region.ready .any ops listed:=by rw [hrd]; simp
     simp only [Region.ready,List.mem_filter,List.mem_range,Bool.and_eq_true,Bool.not_eq_eq_eq_not,Bool.not_true] at this
     have hm : i ∈ unl ops.size listed:=mem_unl.2 ⟨this.1,this.2.1⟩
     rw [hu] at hm
     cases hm
 | succ fuel ih =>
   intro listed σ a E h hsz hdc hl hr hq
   refine ⟨fun h0=>done listed h (prog listed hsz h0) hr hq,fun i hi=>?_⟩
   simp only [Region.ready,List.mem_filter,List.mem_range,Bool.and_eq_true,Bool.not_eq_eq_eq_not,Bool.not_true] at hi
   obtain ⟨hin,hiu,hedges⟩:=hi
   have ho : ops[i]? = some ops[i]:=by simp [hin]
   have hdir : ∀ j,binds ops[i] j → listed.getD j true = true:=by
     intro j ⟨e,he,hb,hj⟩
     simp only [ho,Option.map_some,Option.getD_some] at hedges
     rw [← Array.all_toList,List.all_eq_true] at hedges
     have:=hedges e he
     simp only [hb,Bool.not_true,Bool.false_or,hj] at this
     have hjlt : j < listed.size:=by have:=hedge i _ ho j ⟨e,he,hb,hj⟩; omega
     rw [Array.getD_eq_getD_getElem?] at this ⊢
     simp only [Array.getElem?_eq_getElem hjlt,Option.getD_some] at this ⊢
     exact this
   obtain ⟨L1,L2,u1,u2,u3⟩:=unl_split hsz hin hiu
   have hB' : ∀ m x j,j ≤ m → B x j → (∀ o,ops[j]? = some o → ∀ k,binds o k → listed.getD k true = true) → listed.getD x true = true:=by
     intro m
     induction m with
     | zero =>
       intro x j hjm hb hk
       obtain ⟨o,hoj,k,hbk,_⟩:=hB j x hb
       have:=hedge j o hoj k hbk
       omega
     | succ m ihm =>
       intro x j hjm hb hk
       obtain ⟨o,hoj,k,hbk,hxk⟩:=hB j x hb
       have hkl:=hk o hoj k hbk
       rcases hxk with e | e
       · rw [e]; exact hkl
       · have:=hedge j o hoj k hbk
         exact ihm x k (by omega) e (fun o' ho' k' hk'=>hdc k o' ho' hkl k' hk')
   have hindep : ∀ x ∈ L1,Indep ops Φ x i:=by
     intro x hx
     obtain ⟨x1,x2⟩:=u3 x hx
     rcases hind x i x1 hin with hb | hb
     · have:=hB' i x i (Nat.le_refl _) hb (fun o ho' k hk=>by rw [ho] at ho'; cases ho'; exact hdir k hk)
       rw [x2] at this; cases this
     · exact hb
   have hr':=hr
   rw [u1] at hr'
   obtain ⟨o, σ1,ho',hs,hr2⟩:=Runs.move hindep hr'
   rw [ho] at ho'; cases ho'
   unfold wpOp
   simp only [ho]
   refine step_wp hsp h hs fun has a' E' h1 h2=>?_
   refine ih (listed.setIfInBounds i true) h1 (by simpa using hsz) ?_ ?_ (by rw [u2]; exact hr2) ?_
   · intro k o hk hkl j hj
     have hset:=set_getD (listed:=listed) (i:=i) (by omega)
     rw [hset] at hkl ⊢
     split
     · rfl
     · by_cases e : k = i
       · subst e
         rw [ho] at hk; cases hk
         exact hdir j hj
       · rw [if_neg e] at hkl
         exact hdc k o hk hkl j hj
   · rw [u2]
     rw [u1] at hl
     simp only [List.length_append,List.length_cons] at hl ⊢
     omega
   · intro hA a'' E'' g1 g2
     refine hq (fun x hx=>?_) a'' E'' g1 (h2.trans g2)
     rw [u1] at hx
     rw [u2] at hA
     simp only [List.mem_append,List.mem_cons] at hx
     rcases hx with hx | hx | hx
     · exact hA x (by simp [hx])
     · subst hx; exact has
     · exact hA x (by simp [hx])
end
end
section
def befs : List Oper → List Nat → List Nat
 | [],acc=>acc
 | o :: r,acc=>befs r (acc ++ [o.after.toList.foldl (fun s e=>if Region.binds .any e then s ||| 2 ^ e.on ||| acc.getD e.on 0 else s) 0])
def edgesOK (ops : List Oper) : Bool := ops.zipIdx.all fun p => p.1.after.toList.all fun e => !Region.binds .any e || decide (e.on < p.2)
def pairsUpTo (n : Nat) : List (Nat × Nat) := (List.range n).flatMap fun j => (List.range j).map fun i => (i,j)
def openPairs (ops : Array Oper) : Option (List (Nat × Nat)) :=
 let b:=befs ops.toList []
 let l:=(pairsUpTo ops.size).filter fun p => !(b.getD p.2 0).testBit p.1
 if edgesOK ops.toList && l.all (fun p=>match ops[p.1]?,ops[p.2]? with
   | some x,some y=>x.apart ops y
   | _,_=>false) then some l else none
def fpOK (x y : FP) : Bool :=
 x.wr.all (fun id => !y.rd.contains id && !y.wr.contains id) && y.wr.all (fun id => !x.rd.contains id)
def runF (P : Program) (specs : FuncId → Option Spec) (kk : Nat) (ops : Array Oper) : List Oper → AS → Option (AS × List FP)
 | [], σ=>some (σ,[])
 | o :: r, σ=>match stepA P specs kk ops σ o with
   | some (σ',fp)=>match runF P specs kk ops r σ' with
     | some (σ'',fs)=>some (σ'',fp :: fs)
     | none=>none
   | none=>none
def asAll : List FP → Prop
 | []=>True
 | f :: r=>f.as ∧ asAll r
def nofp : FP := ⟨[],[],True⟩
def runD (P : Program) (specs : FuncId → Option Spec) (kk : Nat) (ops : Array Oper) (σ : AS) : Option (AS × Prop) :=
 match openPairs ops with
 | some l=>match runF P specs kk ops ops.toList σ with
   | some (σ',fps)=>if l.all (fun p=>fpOK (fps.getD p.1 nofp) (fps.getD p.2 nofp)) then some (σ',asAll fps) else none
   | none=>none
 | none=>none
def runR (P : Program) (specs : FuncId → Option Spec) (kk : Nat) (ops : Array Oper) (draw : Bool) (σ : AS) : Option (AS × Prop) :=
 match draw with
 | true=>runD P specs kk ops σ
 | false=>runL P specs kk ops ops.toList σ
theorem foldl_bits {acc : List Nat} : ∀ (es : List Edge) (s : Nat) (x : Nat),(es.foldl (fun s e => if Region.binds .any e then s ||| 2 ^ e.on ||| acc.getD e.on 0 else s) s).testBit x = true →
   s.testBit x = true ∨ ∃ e ∈ es,Region.binds .any e = true ∧ (x = e.on ∨ (acc.getD e.on 0).testBit x = true)
 | [],s,x,h => .inl h
 | e :: r,s,x,h=>by
   simp only [List.foldl_cons] at h
   rcases foldl_bits r _ x h with h1 | ⟨e',h1,h2,h3⟩
   · split at h1
     · rename_i hb
       simp only [Nat.testBit_or,Bool.or_eq_true,Nat.testBit_two_pow,decide_eq_true_eq] at h1
       rcases h1 with (h1 | h1) | h1
       · exact .inl h1
       · exact .inr ⟨e,by simp,hb, .inl h1.symm⟩
       · exact .inr ⟨e,by simp,hb, .inr h1⟩
     · exact .inl h1
   · exact .inr ⟨e',by simp [h1],h2,h3⟩
theorem befs_spec : ∀ (r : List Oper) (acc : List Nat) (i : Nat),(befs r acc).getD i 0 = acc.getD i 0 ∨ acc.length ≤ i
 | [],acc,i => .inl rfl
 | o :: r,acc,i=>by
   simp only [befs]
   rcases befs_spec r (acc ++ [_]) i with h | h
   · by_cases hi : i < acc.length
     · left; rw [h,List.getD_eq_getElem?_getD,List.getD_eq_getElem?_getD,List.getElem?_append_left hi]
     · right; omega
   · right; simp at h; omega
theorem befs_edge : ∀ (r : List Oper) (acc : List Nat) (i x : Nat),((befs r acc).getD i 0).testBit x = true → (acc.getD i 0).testBit x = true ∨
   ∃ o,acc.length ≤ i ∧ r[i - acc.length]? = some o ∧ ∃ e ∈ o.after.toList,Region.binds .any e = true ∧ (¬ e.on < i ∨ x = e.on ∨ ((befs r acc).getD e.on 0).testBit x = true)
 | [],acc,i,x,h => .inl h
 | o :: r, acc, i, x, h => by
   simp only [befs] at h
   rcases befs_edge r _ i x h with h1 | ⟨o',h2,h3,e,h4,h5,h6⟩
   · rcases Nat.lt_trichotomy i acc.length with hi | hi | hi
     · left
       rwa [List.getD_eq_getElem?_getD,List.getElem?_append_left hi, ← List.getD_eq_getElem?_getD] at h1
     · right
       subst hi
       rw [List.getD_eq_getElem?_getD,List.getElem?_append_right (Nat.le_refl _)] at h1
       simp only [Nat.sub_self,List.getElem?_cons_zero,Option.getD_some] at h1
       rcases foldl_bits _ _ _ h1 with h2 | ⟨e,h2,h3,h4⟩
       · simp at h2
       · refine ⟨o,Nat.le_refl _,by simp,e,h2,h3, ?_⟩
         by_cases hlt : e.on < acc.length
         · right
           rcases h4 with h4 | h4
           · exact .inl h4
           · right
             simp only [befs]
             rcases befs_spec r (acc ++ [o.after.toList.foldl (fun s e=>if Region.binds .any e then s ||| 2 ^ e.on ||| acc.getD e.on 0 else s) 0]) e.on with h5 | h5
             · rw [h5,List.getD_eq_getElem?_getD,List.getElem?_append_left hlt, ← List.getD_eq_getElem?_getD]; exact h4
             · simp at h5; omega
         · exact .inl hlt
     · exfalso
       rw [List.getD_eq_getElem?_getD,List.getElem?_eq_none (by simp; omega)] at h1
       simp at h1
   · right
     refine ⟨o',by simp at h2; omega, ?_,e,h4,h5,by simpa only [befs] using h6⟩
     simp only [List.length_append,List.length_singleton] at h2 h3
     rw [show i - acc.length = (i - (acc.length + 1)) + 1 from by omega,List.getElem?_cons_succ]
     exact h3
theorem runF_runs {P : Program} {specs : FuncId → Option Spec} {kk : Nat} {ops : Array Oper} : ∀ (l : List Oper) (k : Nat),(∀ j,l[j]? = ops[k + j]?) → ∀ {σ σ' : AS} {fps : List FP},runF P specs kk ops l σ = some (σ',fps) →
   fps.length = l.length ∧ ∀ Φ : Nat → FP,(∀ j fp,fps[j]? = some fp → Φ (k + j) = fp) → Runs P specs kk ops Φ (List.range' k l.length) σ σ'
 | [],k,_, σ, σ',fps,h=>by
   simp only [runF,Option.some.injEq,Prod.mk.injEq] at h
   obtain ⟨rfl,rfl⟩:=h
   exact ⟨rfl,fun _ _=>Eqv.refl _⟩
 | o :: r,k,hl, σ, σ',fps,h=>by
   simp only [runF] at h
   split at h
   · rename_i σ1 fp hs
     split at h
     · rename_i σ2 fs hr
       simp only [Option.some.injEq,Prod.mk.injEq] at h
       obtain ⟨rfl,rfl⟩:=h
       obtain ⟨q1,q2⟩:=runF_runs r (k + 1) (fun j=>by have:=hl (j + 1); simpa [Nat.add_comm,Nat.add_left_comm,Nat.add_assoc] using this) hr
       refine ⟨by simp [q1],fun Φ hΦ=>?_⟩
       rw [List.length_cons,List.range'_succ]
       have ho : ops[k]? = some o:=by have:=hl 0; simpa using this.symm
       have h0 : Φ k = fp:=by simpa using hΦ 0 fp (by simp)
       refine ⟨o, σ1,ho,by rw [h0]; exact hs,q2 Φ fun j fp' hj=>?_⟩
       have:=hΦ (j + 1) fp' (by simpa using hj)
       rw [← this]; congr 1; omega
     · cases h
   · cases h
theorem asAll_of : ∀ {fps : List FP},(∀ (i : Nat) (f : FP),fps[i]? = some f → f.as) → asAll fps
 | [],_=>trivial
 | g :: r,h=>⟨h 0 g (by simp),asAll_of fun i f hf=>h (i + 1) f (by simpa using hf)⟩
theorem regionD_wp {P : Program} {specs : FuncId → Option Spec} {kk : Nat} (hm : P.follows .mixedOrders = true) (hsp : ∀ f s,specs f = some s → FnC P f s.fn) {ops : Array Oper} {Q : Exit → Act → World → Prop} {id : Nat} {σ σ' : AS} {A : Prop} {a : Act} {E : Env} (h : SR σ a E) (hr : runD P specs kk ops σ = some (σ',A))
   (hq : A → ∀ a' E',SR σ' a' E' → Step E E' → Q .normal a' E'.w) : (Code.region id ops true).wp P Q a E.w:=by
 unfold runD at hr
 split at hr
 · rename_i l hl
   split at hr
   · rename_i σ1 fps hF
     split at hr
     · rename_i hall
       simp only [Option.some.injEq,Prod.mk.injEq] at hr
       obtain ⟨rfl,rfl⟩:=hr
       refine wp_region_any hm ?_
       -- the draw itself
       let E1 : Env:=⟨{ E.w with drawn:=E.w.drawn + 1 },E.H,E.φ,E.cs,E.F⟩
       have hs1 : Step E E1:=⟨Nat.le_refl _,fun _ _ _=>rfl,rfl,fun _ blk hb=>⟨blk,hb,Nat.le_refl _,fun _ _=>⟨.inl rfl,rfl,rfl,rfl,rfl⟩⟩,fun _ blk hb hk hc => .inl ⟨_,blk,hb,hk,hc,rfl, .inl rfl⟩,⟨rfl,rfl,rfl,fun _ _=>rfl⟩⟩
       have hr1 : HR E1:=⟨fun id b hb=>BlkOK.mono hs1 rfl rfl (fun _ _=>rfl) (h.hr.blk id b hb),h.hr.inj,h.hr.nf,h.hr.fb⟩
       have h1 : SR σ a E1:=⟨h.heap,hr1,h.defers,h.size,fun t x ht=>by
         obtain ⟨v,hv,hx⟩:=h.tmps t x ht
         exact ⟨v,hv,Rep.mono hs1 _ _ hx⟩⟩
       simp only [openPairs] at hl
       split at hl
       · rename_i hchk
         simp only [Option.some.injEq] at hl
         subst hl
         simp only [Bool.and_eq_true,List.all_eq_true,List.mem_filter] at hchk
         obtain ⟨hedges,hap⟩:=hchk
         obtain ⟨hlen,hruns⟩:=runF_runs ops.toList 0 (fun j=>by simp) hF
         have hedge : ∀ i o,ops[i]? = some o → ∀ j,binds o j → j < i:=by
           intro i o ho j ⟨e,he,hb,hj⟩
           have hm : (o,i) ∈ ops.toList.zipIdx:=by
             rw [List.mem_zipIdx_iff_getElem?]; simpa using ho
           have:=List.all_eq_true.1 hedges (o,i) hm
           have:=List.all_eq_true.1 this e he
           simp only [hb,Bool.not_true,Bool.false_or,decide_eq_true_eq] at this
           omega
         have hpair : ∀ x i,x < i → i < ops.size → (x,i) ∈ pairsUpTo ops.size:=by
           intro x i hx hi
           simp only [pairsUpTo,List.mem_flatMap,List.mem_range,List.mem_map,Prod.mk.injEq]
           exact ⟨i,hi,x,hx,rfl,rfl⟩
         have hun : unl ops.size (Array.replicate ops.size false) = List.range ops.size:=by
           unfold unl
           rw [List.filter_eq_self]
           intro x hx
           have : x < ops.size:=by simpa using hx
           simp [Array.getD_eq_getD_getElem?,this]
         refine any_wp (kk:=kk) hsp (Φ:=fun i=>fps.getD i nofp) (σ' := σ1) (B:=fun x i=>((befs ops.toList []).getD i 0).testBit x = true) hedge ?_ ?_ ops.size (Array.replicate ops.size false) (E:=E1) h1 (by simp) ?_ ?_ ?_ ?_
         · intro i x hb
           rcases befs_edge ops.toList [] i x hb with hb1 | ⟨o,_,ho,e,he,hbi,hx⟩
           · simp at hb1
           · have ho' : ops[i]? = some o:=by simpa using ho
             rcases hx with hx | hx
             · exact absurd (hedge i o ho' e.on ⟨e,he,hbi,rfl⟩) hx
             · exact ⟨o,ho',e.on,⟨e,he,hbi,rfl⟩,hx⟩
         · intro x i hx hi
           by_cases hb : ((befs ops.toList []).getD i 0).testBit x = true
           · exact .inl hb
           · right
             have hmem : (x,i) ∈ pairsUpTo ops.size ∧ (!((befs ops.toList []).getD i 0).testBit x) = true:=⟨hpair x i hx hi,by simpa using hb⟩
             have h2:=hap (x,i) hmem
             have h3:=List.all_eq_true.1 hall (x,i) (by rw [List.mem_filter]; exact hmem)
             simp only [fpOK,Bool.and_eq_true,List.all_eq_true,Bool.not_eq_eq_eq_not,Bool.not_true] at h3
             refine ⟨fun ox oi e1 e2=>?_,fun id hid=>?_,fun id hid=>?_⟩
             · simp only [e1,e2] at h2
               exact h2
             · have:=h3.1 id hid
               simpa using this
             · have:=h3.2 id hid
               simpa using this
         · intro i o ho hl j hj
           have hlt : i < ops.size:=(Array.getElem?_eq_some_iff.1 ho).1
           simp [Array.getD_eq_getD_getElem?,hlt] at hl
         · rw [hun]; simp
         · rw [hun,List.range_eq_range']
           have:=hruns (fun i=>fps.getD i nofp) (fun j fp hj=>by simp [List.getD_eq_getElem?_getD,hj])
           simpa using this
         · intro hA a' E' g1 g2
           refine hq (asAll_of fun i f hf=>?_) a' E' g1 (hs1.trans g2)
           have hi : i < ops.size:=by
             have:=(List.getElem?_eq_some_iff.1 hf).1
             rw [hlen] at this; simpa using this
           have:=hA i (by rw [hun]; simpa using hi)
           simpa [List.getD_eq_getElem?_getD,hf] using this
       · cases hl
     · cases hr
   · cases hr
 · cases hr
def loopN (B : (Exit → AS → Prop) → AS → Prop) (Q : Exit → AS → Prop) : Nat → AS → Prop
 | 0,_=>False
 | n + 1, σ=>B (fun e σ'=>match e with
   | .normal=>loopN B Q n σ'
   | e=>Q e σ') σ
def awp (P : Program) (specs : FuncId → Option Spec) : Code → (Exit → AS → Prop) → AS → Prop
 | .skip,Q, σ=>Q .normal σ
 | .label _,Q, σ=>Q .normal σ
 | .region _ ops draw,Q, σ => ∃ kk,match runR P specs kk ops draw σ with
   | some (σ',A)=>A → Q .normal σ'
   | none=>False
 | .seq x y,Q, σ=>awp P specs x (fun e σ'=>match e with
   | .normal=>awp P specs y Q σ'
   | e=>Q e σ') σ
 | .cond c x y,Q, σ=>match σ.ev c with
   | .bool b=>(b = true → awp P specs x Q σ) ∧ (b = false → awp P specs y Q σ)
   | _=>False
 | .block id x,Q, σ=>awp P specs x (fun e σ'=>match e with
   | .exit i=>if i = id then Q .normal σ' else Q (.exit i) σ'
   | e=>Q e σ') σ
 | .loop x,Q, σ => ∃ n,loopN (awp P specs x) Q n σ
 | .exit id,Q, σ=>Q (.exit id) σ
 | .ret,Q, σ=>Q .ret σ
 | .scope x,Q, σ=>awp P specs x (fun e σ'=>match e with
   | .goto _=>False
   | e=>Q e σ') σ
 | _,_,_=>False
def Post (E : Env) (Q : Exit → AS → Prop) (e : Exit) (a' : Act) (w' : World) : Prop := ∃ σ' E',E'.w = w' ∧ SR σ' a' E' ∧ Step E E' ∧ Q e σ'
theorem awp_sound {P : Program} {specs : FuncId → Option Spec} (hm : P.follows .mixedOrders = true) (hsp : ∀ f s,specs f = some s → FnC P f s.fn) : ∀ (c : Code) {Q : Exit → AS → Prop} {σ : AS} {a : Act} {E : Env},SR σ a E → awp P specs c Q σ → c.wp P (Post E Q) a E.w
 | .skip,Q, σ,a,E,h,hw=>wp_skip ⟨σ,E,rfl,h,Step.refl E,hw⟩
 | .label _,Q, σ,a,E,h,hw=>wp_label ⟨σ,E,rfl,h,Step.refl E,hw⟩
 | .region id ops draw,Q, σ,a,E,h,hw=>by
   simp only [awp] at hw
   obtain ⟨kk,hw⟩:=hw
   split at hw
   · rename_i σ' A hr
     cases draw with
     | true=>exact regionD_wp hm hsp h hr fun hA a' E' h1 h2=>⟨σ',E',rfl,h1,h2,hw hA⟩
     | false=>exact region_wp hsp h hr fun hA a' E' h1 h2=>⟨σ',E',rfl,h1,h2,hw hA⟩
   · exact hw.elim
 | .seq x y,Q, σ,a,E,h,hw=>by
   simp only [awp] at hw
   refine wp_seq (wp_mono (awp_sound hm hsp x h hw) fun e a' w' hp=>?_)
   obtain ⟨σ',E',rfl,h1,h2,h3⟩:=hp
   cases e with
   | normal =>
     refine wp_mono (awp_sound hm hsp y h1 h3) fun e a'' w'' hp=>?_
     obtain ⟨σ'',E'',rfl,g1,g2,g3⟩:=hp
     exact ⟨σ'',E'',rfl,g1,h2.trans g2,g3⟩
   | _=>exact ⟨σ',E',rfl,h1,h2,h3⟩
 | .cond c x y,Q, σ,a,E,h,hw=>by
   simp only [awp] at hw
   have hc:=h.ev c
   split at hw
   · rename_i b hb
     rw [hb] at hc
     simp only [Rep] at hc
     exact wp_cond_split hc (fun ht=>awp_sound hm hsp x h (hw.1 ht)) (fun hf=>awp_sound hm hsp y h (hw.2 hf))
   · exact hw.elim
 | .block id x,Q, σ,a,E,h,hw=>by
   simp only [awp] at hw
   refine wp_block (wp_mono (awp_sound hm hsp x h hw) fun e a' w' hp=>?_)
   obtain ⟨σ',E',rfl,h1,h2,h3⟩:=hp
   cases e with
   | exit i =>
     simp only [Exit.inBlock]
     simp only at h3
     split
     · rename_i e; rw [if_pos e] at h3; exact ⟨σ',E',rfl,h1,h2,h3⟩
     · rename_i e; rw [if_neg e] at h3; exact ⟨σ',E',rfl,h1,h2,h3⟩
   | _=>exact ⟨σ',E',rfl,h1,h2,h3⟩
 | .loop x,Q, σ,a,E,h,hw=>by
   simp only [awp] at hw
   obtain ⟨n,hn⟩:=hw
   refine wp_loop_rounds n ?_
   have key : ∀ (n : Nat) {σ : AS} {a : Act} {E1 : Env},Step E E1 → SR σ a E1 → loopN (awp P specs x) Q n σ → Code.rounds P x (Post E Q) n a E1.w:=by
     intro n
     induction n with
     | zero=>intro σ a E1 _ _ hl; exact hl.elim
     | succ n ih =>
       intro σ a E1 hs h1 hl
       simp only [loopN] at hl
       rw [rounds_succ]
       refine wp_mono (awp_sound hm hsp x h1 hl) fun e a'' w'' hp=>?_
       obtain ⟨σ2,E2,rfl,k1,k2,k3⟩:=hp
       cases e with
       | normal=>exact ih (hs.trans k2) k1 k3
       | _=>exact ⟨σ2,E2,rfl,k1,hs.trans k2,k3⟩
   exact key n (Step.refl E) h hn
 | .exit id,Q, σ,a,E,h,hw=>wp_exit ⟨σ,E,rfl,h,Step.refl E,hw⟩
 | .ret,Q, σ,a,E,h,hw=>wp_ret ⟨σ,E,rfl,h,Step.refl E,hw⟩
 | .rangeFunc ..,_,_,_,_,_,hw=>hw.elim
 | .scope x,Q, σ,a,E,h,hw=>by
   simp only [awp] at hw
   refine wp_scope_straight (wp_mono (awp_sound hm hsp x h hw) fun e a' w' hp=>?_)
   obtain ⟨σ',E',rfl,h1,h2,h3⟩:=hp
   cases e with
   | goto l=>exact h3.elim
   | _=>exact ⟨σ',E',rfl,h1,h2,h3⟩
 | .goto _,_,_,_,_,_,hw=>hw.elim
 | .refuse _,_,_,_,_,_,hw=>hw.elim
end
section
def num {α : Type} : Nat → List α → NL α
 | _,[]=>[]
 | k,x :: r=>(k,x) :: num (k + 1) r
theorem lk_num {α : Type} : ∀ (l : List α) (k i : Nat),lk (num k l) i = if k ≤ i then l[i - k]? else none
 | [],k,i=>by simp [num,lk]
 | x :: r,k,i=>by
   simp only [num,lk,lk_num r (k + 1) i]
   by_cases h : k = i
   · subst h; simp
   · rw [if_neg h]
     by_cases h2 : k + 1 ≤ i
     · rw [if_pos h2,if_pos (by omega),show i - k = (i - (k + 1)) + 1 from by omega,List.getElem?_cons_succ]
     · rw [if_neg h2,if_neg (by omega)]
def frzT (x : AV) (k : AV → AP AV) : AP AV :=
 match x with
 | .tup cs=>frzVs cs fun cs'=>k (.tup cs')
 | x=>frzV x k
def inlV : AV → Bool
 | .agg cs=>cs.all AV.isInl
 | x=>x.isInl
def inlT : AV → Bool
 | .tup cs=>cs.all inlV
 | x=>inlV x
theorem inlL_rep {E : Env} {p : AV → Bool} (hp : ∀ {x : AV} {v : Value},p x = true → Rep E x v → RepI E.w E.imm x v) : ∀ {xs : List AV} {vs : List Value},xs.all p = true → RepL E xs vs → RepIL E.w E.imm xs vs
 | [],_,_,h=>by simpa only [RepL,RepIL] using h
 | x :: r,vs,ha,h=>by
   simp only [List.all_cons,Bool.and_eq_true] at ha
   simp only [RepL] at h
   simp only [RepIL]
   obtain ⟨v,vs',rfl,h1,h2⟩:=h
   exact ⟨v,vs',rfl,hp ha.1 h1,inlL_rep hp ha.2 h2⟩
theorem inlV_rep {E : Env} {x : AV} {v : Value} (h : inlV x = true) (hx : Rep E x v) : RepI E.w E.imm x v := by
 unfold inlV at h
 split at h
 · simp only [Rep] at hx
   simp only [RepI]
   obtain ⟨cs,rfl,hc⟩:=hx
   exact ⟨cs,rfl,inlL_rep (fun h hx=>isInl_rep hx h) h hc⟩
 · exact isInl_rep hx h
theorem inlT_rep {E : Env} {x : AV} {v : Value} (h : inlT x = true) (hx : Rep E x v) : RepI E.w E.imm x v := by
 unfold inlT at h
 split at h
 · simp only [Rep] at hx
   simp only [RepI]
   obtain ⟨cs,rfl,hc⟩:=hx
   exact ⟨cs,rfl,inlL_rep inlV_rep h hc⟩
 · exact inlV_rep h hx
def PureAct (v : Value) : ActW where
 f w K:=K v w
 mono _ _ _ h hk:=h _ _ hk
theorem frzT_run {E : Env} {H : NL ABlk} (hH : E.H = lk H) (hr : HR E) {x : AV} {v : Value} (hx : Rep E x v) {out : Out AV} (ho : (frzT x .ret).run H = some out) :
   ∃ E',E'.w = E.w ∧ HR E' ∧ Step E E' ∧ Rep E' out.val v:=by
 have : SndW E H (frzT x .ret) (PureAct v):=by
   unfold frzT
   split
   · simp only [Rep] at hx
     obtain ⟨cs,rfl,hc⟩:=hx
     refine frzVs_w hH hr hc fun E1 H1 xs' e1 e2 e3 e4 e5=>fun out ho=>?_
     simp only [AP.run,Option.some.injEq] at ho; subst ho
     refine ⟨trivial,E1,rfl,e2,e3,Step.refl _, ?_⟩
     simp only [Rep]
     exact ⟨cs,rfl,RepIL.rep _ _ e5⟩
   · refine frzV_w hH hr hx fun E1 H1 x' e1 e2 e3 e4 e5=>fun out ho=>?_
     simp only [AP.run,Option.some.injEq] at ho; subst ho
     exact ⟨trivial,E1,rfl,e2,e3,Step.refl _,e5.rep⟩
 obtain ⟨_,E',h1,_,h3,h4,h5⟩:=this out ho
 exact ⟨E',h1,h3,h4,h5⟩
def resV (P : Program) (σ : AS) : ResultVar → Option AV
 | .tmp t=>some (σ.ev (.tmp t))
 | .cell a t=>match (loadA P t (σ.ev (.tmp a))).run σ.heap with
   | some o=>some o.val
   | none=>none
def resVs (P : Program) (σ : AS) : List ResultVar → Option (List AV)
 | []=>some []
 | r :: rs=>match resV P σ r,resVs P σ rs with
   | some x,some xs=>some (x :: xs)
   | _,_=>none
def pack : List AV → AV
 | [x]=>x
 | xs => .tup xs
theorem loadA_run {P : Program} {E : Env} {H : NL ABlk} (hH : E.H = lk H) (hr : HR E) {t : TypeId} {x : AV} {v : Value} (hx : Rep E x v) {o : Out AV} (ho : (loadA P t x).run H = some o) : ∃ u,(Instr.loadAt t v).run P E.w = .ok u E.w ∧ Rep E o.val u := by
 obtain ⟨u,E',h1,h2,h3,h4,h5,h6⟩:=load_snd (P:=P) hH hr (t:=t) hx o ho
 -- a load leaves everything as it is
 cases x with
 | ptr id g r off =>
   simp only [Rep] at hx
   obtain ⟨blk,a,hb,hle,rfl,hg⟩:=hx
   rw [hH] at hb
   simp only [loadA,AP.run,hb] at ho
   split at ho
   · rename_i o1 ho1
     simp only [Option.some.injEq] at ho
     subst ho
     split at ho1
     · rename_i hc
       obtain ⟨hk,rfl⟩:=hg hc.1
       split at ho1
       · rename_i row hrow
         obtain ⟨C,hC,hcs,hsz,hle,hlen,hcell⟩:=hr.cells (by rw [hH]; exact hb) hk
         obtain ⟨e1,u,e2,e3⟩:=mkv_load (P:=P) (b:=E.φ id) (off:=r * blk.size + off) (fun i x hx=>by
           rw [List.getElem?_drop] at hx
           obtain ⟨u,hu,_,hru⟩:=hcell r row (off + i) x hrow hx
           refine ⟨u, ?_,hru.rep⟩
           have hpos : 0 < E.cs id:=by rw [← hcs]; have:=(Array.getElem?_eq_some_iff.1 hu).1; omega
           rw [cell_of_heap (hC hpos), ← hu]
           congr 1; omega) ho1
         refine ⟨u, ?_,e3⟩
         simp only [Instr.loadAt,Instr.sureAddr,Sem.run_bind,Sem.run_pure,Result.andThen_ok]
         exact e2
       · simp [AP.run] at ho1
     · simp [AP.run] at ho1
   · cases ho
 | cptr cells =>
   simp only [Rep,RepI] at hx
   obtain ⟨b,off,rfl,hi,hc⟩:=hx
   simp only [loadA] at ho
   obtain ⟨e1,u,e2,e3⟩:=mkv_load (E:=E) (b:=b) (off:=off) (fun i x hx=>by
     obtain ⟨u,hu,_,hru⟩:=hc.get hx
     exact ⟨u,hu,hru.rep⟩) ho
   refine ⟨u, ?_,e3⟩
   simp only [Instr.loadAt,Instr.sureAddr,Sem.run_bind,Sem.run_pure,Result.andThen_ok]
   exact e2
 | _=>simp [loadA,AP.run] at ho
def resF (tmps : Array Value) (r : ResultVar) : Sem Value :=
 match r with
 | .tmp t=>pure (tmps.getD t undef)
 | .cell a t=>do loadVar t (← asAddr (tmps.getD a undef))
theorem results_eq (fn : Func) (tmps : Array Value) : results fn tmps = (do let vs ← fn.results.mapM (resF tmps); pure (if h : vs.size = 1 then vs[0] else .tuple vs)) := rfl
theorem resVs_run {P : Program} {σ : AS} {a : Act} {E : Env} (h : SR σ a E) {fn : Func} {xs : List AV} (hx : resVs P σ fn.results.toList = some xs) :
   ∃ v,(results fn a.tmps).run P E.w = .ok v E.w ∧ Rep E (pack xs) v:=by
 have key : ∀ (rs : List ResultVar) (xs : List AV),resVs P σ rs = some xs → ∃ vs,(rs.mapM (resF a.tmps)).run P E.w = .ok vs E.w ∧ RepL E xs vs:=by
   intro rs
   induction rs with
   | nil=>intro xs hx; simp only [resVs,Option.some.injEq] at hx; subst hx; exact ⟨[],by simp,by simp [RepL]⟩
   | cons r rs ih =>
     intro xs hx
     simp only [resVs] at hx
     split at hx
     · rename_i x xs' e1 e2
       simp only [Option.some.injEq] at hx
       subst hx
       obtain ⟨vs,g1,g2⟩:=ih xs' e2
       have hr : ∃ u,(resF a.tmps r).run P E.w = .ok u E.w ∧ Rep E x u:=by
         cases r with
         | tmp t =>
           simp only [resV,Option.some.injEq] at e1
           subst e1
           exact ⟨_,rfl,h.ev (.tmp t)⟩
         | cell ad t =>
           simp only [resV] at e1
           split at e1
           · rename_i o ho
             simp only [Option.some.injEq] at e1
             subst e1
             obtain ⟨u,q1,q2⟩:=loadA_run h.heap h.hr (h.ev (.tmp ad)) ho
             refine ⟨u, ?_,q2⟩
             simp only [Act.eval] at q1
             simp only [Instr.loadAt,Sem.run_bind] at q1
             simp only [resF,Sem.run_bind]
             generalize a.tmps.getD ad undef = vv at *
             cases vv <;> simp [Instr.sureAddr] at q1
             rename_i oa
             cases oa <;> simp at q1
             simpa [asAddr] using q1
           · cases e1
       obtain ⟨u,q1,q2⟩:=hr
       refine ⟨u :: vs, ?_,by simp only [RepL]; exact ⟨u,vs,rfl,q2,g2⟩⟩
       rw [List.mapM_cons]
       simp only [Sem.run_bind,q1,Result.andThen_ok,g1,Sem.run_pure]
     · cases hx
 obtain ⟨vs,h1,h2⟩:=key _ xs hx
 rw [results_eq,Array.mapM_eq_mapM_toList]
 have hl:=h2.length
 simp only [Sem.run_bind,Sem.run_map,h1,Result.andThen_ok,Sem.run_pure]
 match vs,xs,hl,h2 with
 | [v],[x],_,h2 =>
   refine ⟨v,by simp, ?_⟩
   simp only [RepL] at h2
   obtain ⟨_,_,he,hx,_⟩:=h2
   cases he
   exact hx
 | [],[],_,h2=>exact ⟨.tuple #[],by simp,by simp only [pack,Rep]; exact ⟨_,rfl,h2⟩⟩
 | v :: u :: vs,x :: y :: xs,_,h2=>exact ⟨.tuple (v :: u :: vs).toArray,by simp,by simp only [pack,Rep]; exact ⟨_,rfl,h2⟩⟩
def expF (exp : List Nat) (H : NL ABlk) (i g : Nat) : Option (Nat × Nat) :=
 match exp.idxOf? i with
 | some k=>match lk H i with
   | some b=>if b.gen = g then some (k,0) else none
   | none=>none
 | none=>none
def expB (H : NL ABlk) (i : Nat) : Option ABlk :=
 match lk H i with
 | some b=>if b.inl = true ∧ b.kind = 2 then some { b with gen:=0 } else none
 | none=>none
def RetQ (P : Program) (fn : Func) (r : AV) (B : List ABlk) (e : Exit) (σ : AS) : Prop :=
 (e = .normal ∨ e = .ret) ∧ ∃ xs,resVs P σ fn.results.toList = some xs ∧
   ((B = [] ∧ ∃ out,(frzT (pack xs) .ret).run σ.heap = some out ∧ out.val = r ∧ inlT r = true) ∨
    (∃ exp : List Nat,exp.Nodup ∧ exp.map (expB σ.heap) = B.map some ∧ r = (pack xs).ren (expF exp σ.heap)))
theorem export_env {E0 E : Env} (hE0 : E0.H = fun _ => none) {H : NL ABlk} (hH : E.H = lk H) (hr : HR E) (hs : Step E0 E) {exp : List Nat} (hnd : exp.Nodup) {B : List ABlk} (hB : exp.map (expB H) = B.map some) :
   ∃ E',E'.w = E.w ∧ E'.H = (fun i=>B[i]?) ∧ HR E' ∧ Step E0 E' ∧ RenOK (expF exp H) E E':=by
 have hlen : exp.length = B.length:=by have:=congrArg List.length hB; simpa using this
 have hget : ∀ (i : Nat) (b : ABlk),B[i]? = some b → ∃ (id : Nat) (b0 : ABlk),exp[i]? = some id ∧ lk H id = some b0 ∧ b0.inl = true ∧ b0.kind = 2 ∧ b = { b0 with gen:=0 }:=by
   intro i b hb
   have hi : i < exp.length:=by rw [hlen]; exact (List.getElem?_eq_some_iff.1 hb).1
   have h1 : (exp.map (expB H))[i]? = some (some b):=by rw [hB,List.getElem?_map,hb]; rfl
   rw [List.getElem?_map,List.getElem?_eq_getElem hi,Option.map_some,Option.some.injEq] at h1
   refine ⟨exp[i], ?_⟩
   unfold expB at h1
   split at h1
   · rename_i b0 hb0
     split at h1
     · rename_i hc
       simp only [Option.some.injEq] at h1
       exact ⟨b0,List.getElem?_eq_getElem hi,hb0,hc.1,hc.2,h1.symm⟩
     · cases h1
   · cases h1
 let φ' : Nat → Nat:=fun i=>E.φ (exp.getD i 0)
 let cs' : Nat → Nat:=fun i=>E.cs (exp.getD i 0)
 have hφ : ∀ (i id : Nat),exp[i]? = some id → φ' i = E.φ id ∧ cs' i = E.cs id:=fun i id h=>by simp [φ',cs',List.getD_eq_getElem?_getD,h]
 have himm : ∀ b,E.imm b → (Env.mk E.w (fun i=>B[i]?) φ' cs' E.F).imm b:=by
   intro b hb
   refine ⟨hb.1,hb.2.1,fun i blk hbk hk hc he=>?_⟩
   obtain ⟨id,b0,h1,h2,h3,h4,rfl⟩:=hget i blk hbk
   obtain ⟨e1,e2⟩:=hφ i id h1
   exact hb.2.2 id b0 (by rw [hH]; exact h2) (by omega) (by simpa only [e2] using hc) (by simpa only [e1] using he)
 have hold : ∀ b,b < E0.w.heap.size → E.w.heap[b]? = E0.w.heap[b]?:=fun b hb=>hs.old b hb (fun id blk h=>by simp [hE0] at h)
 refine ⟨⟨E.w,fun i=>B[i]?, φ',cs',E.F⟩,rfl,rfl,⟨fun i b hb=>?_,fun i j bi bj hi hj ki kj ci cj hne=>?_,fun i b hb hk hc=>?_,hr.fb⟩,⟨hs.size,fun b hb _=>hold b hb,hs.fo,fun id blk h=>by simp [hE0] at h,fun i b hb hk hc=>?_,hs.kept⟩,⟨rfl,himm,fun i g i' g' he blk hb hg=>?_,fun i g i' g' he=>?_⟩⟩
 · obtain ⟨id,b0,h1,h2,h3,h4,rfl⟩:=hget i b hb
   obtain ⟨e1,e2⟩:=hφ i id h1
   obtain ⟨C,c1,c2,c3,c4,c5,c6⟩:=hr.cells (id:=id) (blk:=b0) (by rw [hH]; exact h2) (.inr h4)
   refine BlkOK.mk_cells (.inr h4) ⟨C,fun hp=>by simp only [e1]; exact c1 (by simpa only [e2] using hp),by simp only [e2]; exact c2,c3,c4,c5,fun r row j x q1 q2=>?_⟩
   obtain ⟨u,d1,d2,d3⟩:=c6 r row j x q1 q2
   rw [h3] at d3
   refine ⟨u,d1,d2, ?_⟩
   show CellR _ b0.inl x u
   rw [h3]
   exact RepI.mono (fun b hb=>⟨himm b hb,rfl⟩) _ _ d3
 · obtain ⟨id1,b1,p1,p2,p3,p4,rfl⟩:=hget i bi hi
   obtain ⟨id2,b2,q1,q2,q3,q4,rfl⟩:=hget j bj hj
   obtain ⟨e1,e2⟩:=hφ i id1 p1
   obtain ⟨e3,e4⟩:=hφ j id2 q1
   simp only at ci cj ⊢
   rw [e1,e3]
   refine hr.inj id1 id2 b1 b2 (by rw [hH]; exact p2) (by rw [hH]; exact q2) (by omega) (by omega) (by rw [← e2]; exact ci) (by rw [← e4]; exact cj) (fun e=>hne ?_)
   subst e
   have hi':=(List.getElem?_eq_some_iff.1 p1).1
   exact (List.getElem?_inj hi' hnd).1 (by rw [p1,q1])
 · obtain ⟨id,b0,h1,h2,h3,h4,rfl⟩:=hget i b hb
   obtain ⟨e1,e2⟩:=hφ i id h1
   simp only at hc ⊢
   rw [e1]
   exact hr.nf id b0 (by rw [hH]; exact h2) (by omega) (by rw [← e2]; exact hc)
 · right
   obtain ⟨id,b0,h1,h2,h3,h4,rfl⟩:=hget i b hb
   obtain ⟨e1,e2⟩:=hφ i id h1
   simp only at hc ⊢
   rw [e1]
   rcases hs.live id b0 (by rw [hH]; exact h2) (by omega) (by rw [← e2]; exact hc) with ⟨_,blk,hb0,_⟩ | hge
   · simp [hE0] at hb0
   · exact hge
 · unfold expF at he
   split at he
   · rename_i k hk
     split at he
     · rename_i b0 hb0
       split at he
       · simp only [Option.some.injEq,Prod.mk.injEq] at he
         obtain ⟨rfl,rfl⟩:=he
         rw [hH] at hb
         rw [hb0] at hb; cases hb
         have hkl : exp[k]? = some i:=by
           rw [List.idxOf?_eq_some_iff] at hk
           obtain ⟨h1,h2,_⟩:=hk
           rw [List.getElem?_eq_getElem h1]
           simpa using h2
         obtain ⟨e1,e2⟩:=hφ k i hkl
         have hkB : k < B.length:=by rw [← hlen]; exact (List.getElem?_eq_some_iff.1 hkl).1
         obtain ⟨id,b1,h1,h2,h3,h4,h5⟩:=hget k _ (List.getElem?_eq_getElem hkB)
         rw [hkl] at h1; cases h1
         rw [hb0] at h2; cases h2
         refine ⟨B[k],List.getElem?_eq_getElem hkB,by rw [h5],by rw [h5],by rw [h5],e1,e2⟩
       · cases he
     · cases he
   · cases he
 · unfold expF at he
   split at he
   · split at he
     · rename_i b0 hb0
       split at he
       · rename_i hg
         exact ⟨b0,by rw [hH]; exact hb0,hg⟩
       · cases he
     · cases he
   · cases he
def init (fn : Func) (args : List AV) : AS := { n := args.length + (fn.ntmps - args.length),tmps := num 0 args,heap := [] }
theorem FnC.intro {P : Program} {specs : FuncId → Option Spec} (hm : P.follows .mixedOrders = true) (hsp : ∀ f s,specs f = some s → FnC P f s.fn) {f : FuncId} {fn : Func} {body : Code}
   (hf : P.funcs[f]? = some fn) (hb : fn.body = some body) (hname : (fn.name == "runtime.NumGoroutine") = false) {S : List AV → Option (AV × List ABlk)}
   (h : ∀ args r B,S args = some (r,B) → awp P specs body (RetQ P fn r B) (init fn args)) : FnC P f (fun args B=>match B with
     | []=>S args
     | _=>none):=by
 refine ⟨⟨fn,hf,hname,by simp [hb]⟩,fun args B r B' hS E vs hH hr hx=>?_⟩
 cases B with
 | cons b bs=>simp at hS
 | nil =>
   simp only at hS
   have hE0 : E.H = fun _=>none:=by rw [hH]; funext i; simp
   have hsz : vs.size = args.length:=by have:=hx.length; simpa using this
   have hsr : SR (init fn args) { tmps:=vs ++ Array.replicate (fn.ntmps - vs.size) undef,defers:=[] } E:=by
     refine ⟨by rw [hE0]; funext i; simp [init,lk],hr,rfl,by simp [init,hsz],fun t x ht=>?_⟩
     simp only [init,lk_num,Nat.zero_le,if_true,Nat.sub_zero] at ht
     obtain ⟨v,hv,hxv⟩:=hx.get ht
     refine ⟨v, ?_,hxv⟩
     have hlt : t < vs.size:=by rw [hsz]; exact (List.getElem?_eq_some_iff.1 ht).1
     rw [Array.getElem?_append_left hlt]
     simpa using hv
   refine calls_of_wp hf hb (wp_mono (awp_sound hm hsp body hsr (h args r B' hS)) fun e a' w' hp=>?_)
   obtain ⟨σ',E1,rfl,h1,h2,he,xs,hxs,hret⟩:=hp
   obtain ⟨v,g1,g2⟩:=resVs_run h1 hxs
   have hfin : ∃ v E',(results fn a'.tmps).run P E1.w = .ok v E1.w ∧ E'.w = E1.w ∧ E'.H = (fun i=>B'[i]?) ∧ HR E' ∧ Step E E' ∧ Rep E' r v:=by
     rcases hret with ⟨rfl,out,q1,rfl,q3⟩ | ⟨exp,q1,q2,rfl⟩
     · obtain ⟨E2,k1,k2,k3,k4⟩:=frzT_run h1.heap h1.hr g2 q1
       have hi:=inlT_rep q3 k4
       have hs:=h2.trans k3
       have hold : ∀ b,b < E.w.heap.size → E2.w.heap[b]? = E.w.heap[b]?:=fun b hb=>hs.old b hb (fun id blk h=>by simp [hE0] at h)
       refine ⟨v,⟨E2.w,fun _=>none,E2.φ,E2.cs,E2.F⟩,g1,k1,by funext i; simp,⟨fun _ _ h=>by simp at h,fun _ _ _ _ h=>by simp at h,fun _ _ h=>by simp at h,k2.fb⟩,⟨hs.size,fun b hb _=>hold b hb,hs.fo,fun id blk h=>by simp [hE0] at h,fun _ _ h=>by simp at h,hs.kept⟩, ?_⟩
       exact RepI.rep _ _ (RepI.mono (fun b hb=>⟨⟨hb.1,hb.2.1,fun _ _ h=>by simp at h⟩,rfl⟩) _ _ hi)
     · obtain ⟨E',k1,k2,k3,k4,k5⟩:=export_env hE0 h1.heap h1.hr h2 q1 q2
       exact ⟨v,E',g1,k1,k2,k3,k4,ren_rep k5 _ _ g2⟩
   obtain ⟨v',E',r1,r2,r3,r4,r5,r6⟩:=hfin
   have hfinal : bodyPost P fn (fun e w' => ∃ v E',e = .returned v ∧ E'.w = w' ∧ E'.H = (fun i=>B'[i]?) ∧ HR E' ∧ Step E E' ∧ Rep E' r v) .ret a' E1.w :=
     ⟨h1.defers,v',r1,v',E',rfl,r2,r3,r4,r5,r6⟩
   rcases he with rfl | rfl
   · exact hfinal
   · exact hfinal
end
section
def Ex (P : Program) (c : Code) (σ : AS) (e : Exit) (τ : AS) : Prop := ∀ (a : Act) (E : Env),SR σ a E → c.wp P (Post E fun e' τ' => e' = e ∧ τ' = τ) a E.w
def WP (P : Program) (c : Code) (Q : Exit → AS → Prop) (σ : AS) : Prop := (∃ a E,SR σ a E) → ∃ e τ,Q e τ ∧ Ex P c σ e τ
theorem wp_has {P : Program} {c : Code} {Q : Exit → Act → World → Prop} {a : Act} {w : World} (h : c.wp P Q a w) : ∃ e a' w',Q e a' w' :=
 let ⟨e,a',w',h1,_⟩:=h (Frame.enter P 0 #[] .normal) [] []
 ⟨e,a',w',h1⟩
theorem Ex.has {P : Program} {c : Code} {σ : AS} {e : Exit} {τ : AS} (h : Ex P c σ e τ) (hs : ∃ a E,SR σ a E) : ∃ a E,SR τ a E := by
 obtain ⟨a,E,hs⟩:=hs
 obtain ⟨_,a',w', τ',E',_,h1,_,_,rfl⟩:=wp_has (h a E hs)
 exact ⟨a',E',h1⟩
theorem WP.run {P : Program} {c : Code} {Q : Exit → AS → Prop} {σ : AS} (h : WP P c Q σ) {a : Act} {E : Env} (hs : SR σ a E) : c.wp P (Post E Q) a E.w := by
 obtain ⟨e, τ,hq,hx⟩:=h ⟨a,E,hs⟩
 refine wp_mono (hx a E hs) fun e' a' w' ⟨τ',E',h1,h2,h3,h4,h5⟩=>⟨τ',E',h1,h2,h3, ?_⟩
 subst h4 h5
 exact hq
theorem WP.ex {P : Program} {c : Code} {σ : AS} {ρ : Type} {Q : ρ → Exit → AS → Prop} (h : WP P c (fun e τ => ∃ r,Q r e τ) σ) (hs : ∃ a E,SR σ a E) : ∃ r,WP P c (Q r) σ := by
 obtain ⟨e, τ,⟨r,hq⟩,hx⟩:=h hs
 exact ⟨r,fun _=>⟨e, τ,hq,hx⟩⟩
structure AS.le (σ' σ : AS) : Prop where
 n : σ'.n = σ.n
 tmps : ∀ t x,lk σ'.tmps t = some x → ∃ y,lk σ.tmps t = some y ∧ ∀ E v,Rep E y v → Rep E x v
 heap : ∀ id,lk σ'.heap id = lk σ.heap id
theorem SR.le {σ σ' : AS} (h : AS.le σ' σ) {a : Act} {E : Env} (hs : SR σ a E) : SR σ' a E :=
 ⟨by rw [hs.heap]; funext id; exact (h.heap id).symm,hs.hr,hs.defers,by rw [hs.size,h.n],fun t x ht=>by
   obtain ⟨y,hy,hyx⟩:=h.tmps t x ht
   obtain ⟨v,h1,h2⟩:=hs.tmps t y hy
   exact ⟨v,h1,hyx E v h2⟩⟩
theorem AS.le_refl (σ : AS) : AS.le σ σ := ⟨rfl,fun _ x h => ⟨x,h,fun _ _ h => h⟩,fun _ => rfl⟩
def tmpsIn : NL AV → NL AV → Prop
 | [],_=>True
 | (t,x) :: r,l=>lk l t = some x ∧ tmpsIn r l
theorem tmpsIn_lk : ∀ {l' l : NL AV},tmpsIn l' l → ∀ t x,lk l' t = some x → lk l t = some x
 | [],_,_,t,x,h=>by simp [lk] at h
 | (s,y) :: r,l,h,t,x,hl=>by
   simp only [tmpsIn] at h
   simp only [lk] at hl
   split at hl
   · rename_i e
     subst e
     simp only [Option.some.injEq] at hl
     subst hl
     exact h.1
   · exact tmpsIn_lk h.2 t x hl
theorem AS.le_of {n m : Nat} {ts' ts : NL AV} {h' h : NL ABlk} (hn : n = m) (ht : tmpsIn ts' ts) (hh : ∀ id,lk h' id = lk h id) : AS.le ⟨n,ts',h'⟩ ⟨m,ts,h⟩ := ⟨hn,fun t x h => ⟨x,tmpsIn_lk ht t x h,fun _ _ h => h⟩,hh⟩
theorem WP.mono {P : Program} {c : Code} {Q Q' : Exit → AS → Prop} {σ : AS} (h : WP P c Q σ) (hq : ∀ e σ,Q e σ → Q' e σ) : WP P c Q' σ := fun hs =>
 let ⟨e, τ,h1,h2⟩:=h hs
 ⟨e, τ,hq _ _ h1,h2⟩
theorem WP.weak {P : Program} {c : Code} {Q : Exit → AS → Prop} {σ σ' : AS} (hl : AS.le σ' σ) (h : WP P c Q σ') : WP P c Q σ := fun ⟨a,E,hs⟩ =>
 let ⟨e, τ,h1,h2⟩:=h ⟨a,E,hs.le hl⟩
 ⟨e, τ,h1,fun a E hs=>h2 a E (hs.le hl)⟩
theorem WP.seq {P : Program} {x y : Code} {Q : Exit → AS → Prop} {σ : AS} (h : WP P x (fun e σ' => match e with
   | .normal=>WP P y Q σ'
   | e=>Q e σ') σ) : WP P (.seq x y) Q σ:=fun hs=>by
 obtain ⟨e, τ,h1,h2⟩:=h hs
 have hτ:=h2.has hs
 cases e with
 | normal =>
   obtain ⟨e, υ,h3,h4⟩:=h1 hτ
   refine ⟨e, υ,h3,fun a E hs=>wp_seq (wp_mono (h2 a E hs) fun e a' w' hp=>?_)⟩
   obtain ⟨σ',E',rfl,k1,k2,rfl,rfl⟩:=hp
   refine wp_mono (h4 a' E' k1) fun e a'' w'' hp=>?_
   obtain ⟨σ'',E'',rfl,g1,g2,g3⟩:=hp
   exact ⟨σ'',E'',rfl,g1,k2.trans g2,g3⟩
 | _ =>
   refine ⟨_, τ,h1,fun a E hs=>wp_seq (wp_mono (h2 a E hs) fun e a' w' hp=>?_)⟩
   obtain ⟨σ',E',rfl,k1,k2,rfl,rfl⟩:=hp
   exact ⟨_,E',rfl,k1,k2,rfl,rfl⟩
theorem WP.skip {P : Program} {Q : Exit → AS → Prop} {σ : AS} (h : Q .normal σ) : WP P .skip Q σ := fun _ => ⟨_,_,h,fun _ E hs => wp_skip ⟨σ,E,rfl,hs,Step.refl E,rfl,rfl⟩⟩
theorem WP.label {P : Program} {n : Nat} {Q : Exit → AS → Prop} {σ : AS} (h : Q .normal σ) : WP P (.label n) Q σ := fun _ => ⟨_,_,h,fun _ E hs => wp_label ⟨σ,E,rfl,hs,Step.refl E,rfl,rfl⟩⟩
theorem WP.exit {P : Program} {n : Nat} {Q : Exit → AS → Prop} {σ : AS} (h : Q (.exit n) σ) : WP P (.exit n) Q σ := fun _ => ⟨_,_,h,fun _ E hs => wp_exit ⟨σ,E,rfl,hs,Step.refl E,rfl,rfl⟩⟩
theorem WP.ret {P : Program} {Q : Exit → AS → Prop} {σ : AS} (h : Q .ret σ) : WP P .ret Q σ := fun _ => ⟨_,_,h,fun _ E hs => wp_ret ⟨σ,E,rfl,hs,Step.refl E,rfl,rfl⟩⟩
theorem WP.region {P : Program} {specs : FuncId → Option Spec} {kk : Nat} (hm : P.follows .mixedOrders = true) (hsp : ∀ f s,specs f = some s → FnC P f s.fn) {id : Nat} {ops : Array Oper} {draw : Bool} {Q : Exit → AS → Prop} {σ σ' : AS} {A : Prop}
   (hr : runR P specs kk ops draw σ = some (σ',A)) (h : A → Q .normal σ') : WP P (.region id ops draw) Q σ:=fun ⟨a,E,hs⟩=>by
 have key : ∀ (a : Act) (E : Env),SR σ a E → (Code.region id ops draw).wp P (Post E fun e' τ'=>e' = .normal ∧ τ' = σ' ∧ A) a E.w:=fun a E hs =>
   awp_sound hm hsp (.region id ops draw) hs (by simp only [awp]; exact ⟨kk,by simp only [hr]; exact fun hA=>⟨trivial,trivial,hA⟩⟩)
 obtain ⟨_,_,_,_,_,_,_,_,_,_,hA⟩:=wp_has (key a E hs)
 exact ⟨_, σ',h hA,fun a E hs=>wp_mono (key a E hs) fun e' a' w' ⟨τ',E',g1,g2,g3,g4,g5,_⟩=>⟨τ',E',g1,g2,g3,g4,g5⟩⟩
theorem WP.cond {P : Program} {c : Operand} {x y : Code} {b : Bool} {Q : Exit → AS → Prop} {σ : AS} (hc : σ.ev c = .bool b) (ht : b = true → WP P x Q σ) (hf : b = false → WP P y Q σ) : WP P (.cond c x y) Q σ := fun hs => by
 have he : ∀ (a : Act) (E : Env),SR σ a E → a.eval c = .bool b:=fun a E hs=>by
   have h:=hs.ev c
   rw [hc] at h
   simpa only [Rep] using h
 cases b with
 | true =>
   obtain ⟨e, τ,h1,h2⟩:=ht rfl hs
   exact ⟨e, τ,h1,fun a E hs=>wp_cond_split (he a E hs) (fun _=>h2 a E hs) (fun h=>by cases h)⟩
 | false =>
   obtain ⟨e, τ,h1,h2⟩:=hf rfl hs
   exact ⟨e, τ,h1,fun a E hs=>wp_cond_split (he a E hs) (fun h=>by cases h) (fun _=>h2 a E hs)⟩
theorem WP.block {P : Program} {id : Nat} {x : Code} {Q : Exit → AS → Prop} {σ : AS} (h : WP P x (fun e σ' => match e with
   | .exit i=>if i = id then Q .normal σ' else Q (.exit i) σ'
   | e=>Q e σ') σ) : WP P (.block id x) Q σ:=fun hs=>by
 obtain ⟨e, τ,h1,h2⟩:=h hs
 refine ⟨(match e with
   | .exit i=>if i = id then .normal else .exit i
   | e=>e), τ, ?_,fun a E hs=>wp_block (wp_mono (h2 a E hs) fun e' a' w' hp=>?_)⟩
 · cases e with
   | exit i =>
     dsimp only at h1 ⊢
     split
     · rename_i e; rw [if_pos e] at h1; exact h1
     · rename_i e; rw [if_neg e] at h1; exact h1
   | _=>exact h1
 · obtain ⟨σ',E',rfl,g1,g2,rfl,rfl⟩:=hp
   cases e' with
   | exit i =>
     simp only [Exit.inBlock]
     split
     · exact ⟨_,E',rfl,g1,g2,rfl,rfl⟩
     · exact ⟨_,E',rfl,g1,g2,rfl,rfl⟩
   | _=>exact ⟨_,E',rfl,g1,g2,rfl,rfl⟩
theorem WP.loop {P : Program} {x : Code} {Q : Exit → AS → Prop} {ι : Type} (J : ι → AS) (m : ι → Nat)
   (step : ∀ i,WP P x (fun e σ'=>match e with
     | .normal => ∃ j,m j < m i ∧ AS.le (J j) σ'
     | e=>Q e σ') (J i)) {σ : AS} (i : ι) (h0 : AS.le (J i) σ) : WP P (.loop x) Q σ:=by
 have key : ∀ (n : Nat) (i : ι),m i < n → (∃ a E,SR (J i) a E) → ∃ e τ,Q e τ ∧ ∀ (a : Act) (E0 E : Env),Step E0 E → SR (J i) a E → Code.rounds P x (Post E0 fun e' τ'=>e' = e ∧ τ' = τ) n a E.w:=by
   intro n
   induction n with
   | zero=>intro i h; omega
   | succ n ih =>
     intro i hi hs
     obtain ⟨e, τ,h1,h2⟩:=step i hs
     have hτ:=h2.has hs
     cases e with
     | normal =>
       obtain ⟨j,hj,hle⟩:=h1
       obtain ⟨a',E',hs'⟩:=hτ
       obtain ⟨e, υ,h3,h4⟩:=ih j (by omega) ⟨a',E',hs'.le hle⟩
       refine ⟨e, υ,h3,fun a E0 E hst hs=>?_⟩
       rw [rounds_succ]
       refine wp_mono (h2 a E hs) fun e a'' w'' hp=>?_
       obtain ⟨σ2,E2,rfl,k1,k2,rfl,rfl⟩:=hp
       exact h4 a'' E0 E2 (hst.trans k2) (k1.le hle)
     | _ =>
       refine ⟨_, τ,h1,fun a E0 E hst hs=>?_⟩
       rw [rounds_succ]
       refine wp_mono (h2 a E hs) fun e a'' w'' hp=>?_
       obtain ⟨σ2,E2,rfl,k1,k2,rfl,rfl⟩:=hp
       exact ⟨_,E2,rfl,k1,hst.trans k2,rfl,rfl⟩
 intro ⟨a,E,hs⟩
 obtain ⟨e, τ,h1,h2⟩:=key (m i + 1) i (by omega) ⟨a,E,hs.le h0⟩
 exact ⟨e, τ,h1,fun a E hs=>wp_loop_rounds (m i + 1) (h2 a E E (Step.refl E) (hs.le h0))⟩
def specOf (l : NL Spec) (f : FuncId) : Option Spec := lk l f
theorem specOf_ok {P : Program} {l : NL Spec} (h : ∀ p ∈ l,FnC P p.1 p.2.fn) : ∀ f s,specOf l f = some s → FnC P f s.fn := by
 intro f s hs
 unfold specOf at hs
 induction l with
 | nil=>simp [lk] at hs
 | cons p r ih =>
   obtain ⟨k,y⟩:=p
   simp only [lk] at hs
   split at hs
   · rename_i e
     subst e
     simp only [Option.some.injEq] at hs
     subst hs
     exact h (k,y) (by simp)
   · exact ih (fun p hp=>h p (by simp [hp])) hs
theorem FnC.of_wp {P : Program} (f : FuncId) {fn : Func} {body : Code}
   (hf : P.funcs[f]? = some fn) (hb : fn.body = some body) (hname : (fn.name == "runtime.NumGoroutine") = false) {S : List AV → Option (AV × List ABlk)}
   (h : ∀ args r B,S args = some (r,B) → WP P body (RetQ P fn r B) (init fn args)) : FnC P f (fun args B=>match B with
     | []=>S args
     | _=>none):=by
 refine ⟨⟨fn,hf,hname,by simp [hb]⟩,fun args B r B' hS E vs hH hr hx=>?_⟩
 cases B with
 | cons b bs=>simp at hS
 | nil =>
   simp only at hS
   have hE0 : E.H = fun _=>none:=by rw [hH]; funext i; simp
   have hsz : vs.size = args.length:=by have:=hx.length; simpa using this
   have hsr : SR (init fn args) { tmps:=vs ++ Array.replicate (fn.ntmps - vs.size) undef,defers:=[] } E:=by
     refine ⟨by rw [hE0]; funext i; simp [init,lk],hr,rfl,by simp [init,hsz],fun t x ht=>?_⟩
     simp only [init,lk_num,Nat.zero_le,if_true,Nat.sub_zero] at ht
     obtain ⟨v,hv,hxv⟩:=hx.get ht
     refine ⟨v, ?_,hxv⟩
     have hlt : t < vs.size:=by rw [hsz]; exact (List.getElem?_eq_some_iff.1 ht).1
     rw [Array.getElem?_append_left hlt]
     simpa using hv
   refine calls_of_wp hf hb (wp_mono ((h args r B' hS).run hsr) fun e a' w' hp=>?_)
   obtain ⟨σ',E1,rfl,h1,h2,he,xs,hxs,hret⟩:=hp
   obtain ⟨v,g1,g2⟩:=resVs_run h1 hxs
   have hfin : ∃ v E',(results fn a'.tmps).run P E1.w = .ok v E1.w ∧ E'.w = E1.w ∧ E'.H = (fun i=>B'[i]?) ∧ HR E' ∧ Step E E' ∧ Rep E' r v:=by
     rcases hret with ⟨rfl,out,q1,rfl,q3⟩ | ⟨exp,q1,q2,rfl⟩
     · obtain ⟨E2,k1,k2,k3,k4⟩:=frzT_run h1.heap h1.hr g2 q1
       have hi:=inlT_rep q3 k4
       have hs:=h2.trans k3
       have hold : ∀ b,b < E.w.heap.size → E2.w.heap[b]? = E.w.heap[b]?:=fun b hb=>hs.old b hb (fun id blk h=>by simp [hE0] at h)
       refine ⟨v,⟨E2.w,fun _=>none,E2.φ,E2.cs,E2.F⟩,g1,k1,by funext i; simp,⟨fun _ _ h=>by simp at h,fun _ _ _ _ h=>by simp at h,fun _ _ h=>by simp at h,k2.fb⟩,⟨hs.size,fun b hb _=>hold b hb,hs.fo,fun id blk h=>by simp [hE0] at h,fun _ _ h=>by simp at h,hs.kept⟩, ?_⟩
       exact RepI.rep _ _ (RepI.mono (fun b hb=>⟨⟨hb.1,hb.2.1,fun _ _ h=>by simp at h⟩,rfl⟩) _ _ hi)
     · obtain ⟨E',k1,k2,k3,k4,k5⟩:=export_env hE0 h1.heap h1.hr h2 q1 q2
       exact ⟨v,E',g1,k1,k2,k3,k4,ren_rep k5 _ _ g2⟩
   obtain ⟨v',E',r1,r2,r3,r4,r5,r6⟩:=hfin
   have hfinal : bodyPost P fn (fun e w' => ∃ v E',e = .returned v ∧ E'.w = w' ∧ E'.H = (fun i=>B'[i]?) ∧ HR E' ∧ Step E E' ∧ Rep E' r v) .ret a' E1.w :=
     ⟨h1.defers,v',r1,v',E',rfl,r2,r3,r4,r5,r6⟩
   rcases he with rfl | rfl
   · exact hfinal
   · exact hfinal
def codeOf (f : Func) : Code := match f.body with
 | some c=>c
 | none => .skip
def cL : Code → Code
 | .seq x _=>x
 | .cond _ x _=>x
 | .block _ x=>x
 | .loop x=>x
 | c=>c
def cR : Code → Code
 | .seq _ y=>y
 | .cond _ _ y=>y
 | c=>c
theorem WP.loopN {P : Program} {c : Code} {Q : Exit → AS → Prop} (hc : c = .loop (cL c)) {ι : Type} (J : ι → AS) (m : ι → Nat)
   (step : ∀ i,WP P (cL c) (fun e σ'=>match e with
     | .normal => ∃ j,m j < m i ∧ AS.le (J j) σ'
     | e=>Q e σ') (J i)) {σ : AS} (i : ι) (h0 : AS.le (J i) σ) : WP P c Q σ:=by rw [hc]; exact WP.loop J m step i h0
open Classical in
noncomputable def mkS {α : Type} (enc : α → List AV) (res : α → AV × List ABlk) : SpecFn := fun args B =>
 if h : B = [] ∧ ∃ x,enc x = args then some (res h.2.choose) else none
theorem mkS_eq {α : Type} {enc : α → List AV} {res : α → AV × List ABlk} (inj : ∀ x y,enc x = enc y → res x = res y) (x : α) : mkS enc res (enc x) [] = some (res x) := by
 unfold mkS
 have h : ([] : List ABlk) = [] ∧ ∃ y,enc y = enc x:=⟨rfl,x,rfl⟩
 rw [dif_pos h,inj _ _ h.2.choose_spec]
theorem FnC.ofEnc {P : Program} {α : Type} {enc : α → List AV} {res : α → AV × List ABlk} (f : FuncId) {fn : Func} (hf : P.funcs[f]? = some fn) (hb : fn.body = some (codeOf fn)) (hname : (fn.name == "runtime.NumGoroutine") = false)
   (h : ∀ x,WP P (codeOf fn) (RetQ P fn (res x).1 (res x).2) (init fn (enc x))) : FnC P f (mkS enc res):=by
 have h1:=FnC.of_wp (P:=P) f hf hb hname (S:=fun args=>mkS enc res args []) (fun args r B hS=>by
   unfold mkS at hS
   split at hS
   · rename_i hx
     simp only [Option.some.injEq] at hS
     have h2:=h hx.2.choose
     rw [hx.2.choose_spec,hS] at h2
     exact h2
   · cases hS)
 refine ⟨h1.fn,fun args B r B' hS E vs hH hr hx=>?_⟩
 cases B with
 | nil=>exact h1.calls args [] r B' hS E vs hH hr hx
 | cons b bs=>simp [mkS] at hS
theorem run_ret {α : Type} (a : α) (H : NL ABlk) : (AP.ret a).run H = some ⟨a,H,[],[],True⟩ := rfl
theorem run_fail {α : Type} (H : NL ABlk) : (AP.fail (α := α)).run H = none := rfl
theorem run_get {α : Type} (id : Nat) (k : ABlk → AP α) (H : NL ABlk) : (AP.get id k).run H = match (k ((lk H id).getD {})).run H with
   | some o=>some ⟨o.val,o.H,id :: o.rd,o.wr,o.as⟩
   | none=>none:=by
 simp only [AP.run]
 cases lk H id <;> rfl
theorem run_put {α : Type} (id : Nat) (b : ABlk) (k : AP α) (H : NL ABlk) : (AP.put id b k).run H = match k.run (st H id b) with
   | some o=>some ⟨o.val,o.H,o.rd,id :: o.wr,o.as⟩
   | none=>none:=rfl
theorem run_asm {α : Type} (p : Prop) (k : AP α) (H : NL ABlk) : (AP.asm p k).run H = match k.run H with
   | some o=>some ⟨o.val,o.H,o.rd,o.wr,p ∧ o.as⟩
   | none=>none:=rfl
end
section
inductive Fr where
 | seq (c : Code)
 | blk (id : Nat)
 | loop (back : AS → Prop)
def post (P : Program) (Q : AS → Prop) : List Fr → Exit → AS → Prop
 | [],e, σ=>(e = .normal ∨ e = .ret) ∧ Q σ
 | .seq y :: fs,e, σ=>match e with
   | .normal=>WP P y (post P Q fs) σ
   | e=>post P Q fs e σ
 | .blk id :: fs,e, σ=>match e with
   | .exit i=>if i = id then post P Q fs .normal σ else post P Q fs (.exit i) σ
   | e=>post P Q fs e σ
 | .loop b :: fs,e, σ=>match e with
   | .normal=>b σ
   | e=>post P Q fs e σ
structure W (P : Program) (Q : AS → Prop) (c : Code) (fs : List Fr) (σ : AS) : Prop where
 h : WP P c (post P Q fs) σ
structure N (P : Program) (Q : AS → Prop) (fs : List Fr) (σ : AS) : Prop where
 h : post P Q fs .normal σ
structure X (P : Program) (Q : AS → Prop) (i : Nat) (fs : List Fr) (σ : AS) : Prop where
 h : post P Q fs (.exit i) σ
variable {P : Program} {Q : AS → Prop}
theorem post_ret : ∀ (fs : List Fr) (σ : AS),Q σ → post P Q fs .ret σ
 | [],_,h=>⟨.inr rfl,h⟩
 | .seq _ :: fs, σ,h=>post_ret fs σ h
 | .blk _ :: fs, σ,h=>post_ret fs σ h
 | .loop _ :: fs, σ,h=>post_ret fs σ h
theorem N.nil {σ : AS} (h : Q σ) : N P Q [] σ := ⟨.inl rfl,h⟩
theorem N.seq {y : Code} {fs : List Fr} {σ : AS} (h : W P Q y fs σ) : N P Q (.seq y :: fs) σ := ⟨h.h⟩
theorem N.blk {id : Nat} {fs : List Fr} {σ : AS} (h : N P Q fs σ) : N P Q (.blk id :: fs) σ := ⟨h.h⟩
theorem N.loop {b : AS → Prop} {fs : List Fr} {σ : AS} (h : b σ) : N P Q (.loop b :: fs) σ := ⟨h⟩
theorem X.seq {i : Nat} {y : Code} {fs : List Fr} {σ : AS} (h : X P Q i fs σ) : X P Q i (.seq y :: fs) σ := ⟨h.h⟩
theorem X.loop {i : Nat} {b : AS → Prop} {fs : List Fr} {σ : AS} (h : X P Q i fs σ) : X P Q i (.loop b :: fs) σ := ⟨h.h⟩
theorem X.hit {i : Nat} {fs : List Fr} {σ : AS} (h : N P Q fs σ) : X P Q i (.blk i :: fs) σ := by
 refine ⟨?_⟩
 simp only [post,if_true]
 exact h.h
theorem X.pass {i j : Nat} {fs : List Fr} {σ : AS} (hne : i ≠ j) (h : X P Q i fs σ) : X P Q i (.blk j :: fs) σ := by
 refine ⟨?_⟩
 simp only [post,if_neg hne]
 exact h.h
theorem W.seq {c : Code} {fs : List Fr} {σ : AS} (hc : c = .seq (cL c) (cR c)) (h : W P Q (cL c) (.seq (cR c) :: fs) σ) : W P Q c fs σ := by
 refine ⟨?_⟩
 rw [hc]
 exact WP.seq (h.h.mono fun e σ h=>by cases e <;> exact h)
theorem W.block {c : Code} {fs : List Fr} {σ : AS} {id : Nat} (hc : c = .block id (cL c)) (h : W P Q (cL c) (.blk id :: fs) σ) : W P Q c fs σ := by
 refine ⟨?_⟩
 rw [hc]
 exact WP.block (h.h.mono fun e σ h=>by cases e <;> exact h)
theorem W.skip {c : Code} {fs : List Fr} {σ : AS} (hc : c = .skip) (h : N P Q fs σ) : W P Q c fs σ := by
 refine ⟨?_⟩
 rw [hc]
 exact WP.skip h.h
theorem W.exit {c : Code} {fs : List Fr} {σ : AS} {i : Nat} (hc : c = .exit i) (h : X P Q i fs σ) : W P Q c fs σ := by
 refine ⟨?_⟩
 rw [hc]
 exact WP.exit h.h
theorem W.ret {c : Code} {fs : List Fr} {σ : AS} (hc : c = .ret) (h : Q σ) : W P Q c fs σ := by
 refine ⟨?_⟩
 rw [hc]
 exact WP.ret (post_ret fs σ h)
theorem W.cond {c : Code} {fs : List Fr} {σ : AS} {t : Nat} {b : Bool} (hc : c = .cond (.tmp t) (cL c) (cR c)) (hv : lk σ.tmps t = some (.bool b)) (ht : b = true → W P Q (cL c) fs σ) (hf : b = false → W P Q (cR c) fs σ) : W P Q c fs σ := by
 refine ⟨?_⟩
 rw [hc]
 exact WP.cond (by simp [AS.ev,hv]) (fun e=>(ht e).h) (fun e=>(hf e).h)
theorem W.condT {c : Code} {fs : List Fr} {σ : AS} {t : Nat} (hc : c = .cond (.tmp t) (cL c) (cR c)) (hv : lk σ.tmps t = some (.bool true)) (ht : W P Q (cL c) fs σ) : W P Q c fs σ :=
 W.cond hc hv (fun _=>ht) (fun h=>by cases h)
theorem W.condF {c : Code} {fs : List Fr} {σ : AS} {t : Nat} (hc : c = .cond (.tmp t) (cL c) (cR c)) (hv : lk σ.tmps t = some (.bool false)) (hf : W P Q (cR c) fs σ) : W P Q c fs σ :=
 W.cond hc hv (fun h=>by cases h) (fun _=>hf)
theorem W.region {specs : NL Spec} (hm : P.follows .mixedOrders = true) (hsp : ∀ p ∈ specs,FnC P p.1 p.2.fn) {c : Code} {fs : List Fr} {id : Nat} {ops : Array Oper} (hc : c = .region id ops false) {σ σ' : AS} {A : Prop}
   (hr : runL P (specOf specs) 0 ops ops.toList σ = some (σ',A)) (h : A → N P Q fs σ') : W P Q c fs σ:=by
 refine ⟨?_⟩
 rw [hc]
 exact WP.region hm (specOf_ok hsp) hr fun hA=>(h hA).h
def drawOK (ops : Array Oper) (rw : List (List Nat × List Nat)) : Bool := match openPairs ops with
 | some l=>l.all fun p=>match rw.getD p.1 ([],[]),rw.getD p.2 ([],[]) with
   | (r1,w1),(r2,w2)=>w1.all (fun id => !r2.contains id && !w2.contains id) && w2.all (fun id => !r1.contains id)
 | none=>false
theorem fp_getD (fps : List FP) (i : Nat) : (fps.map fun f => (f.rd,f.wr)).getD i ([],[]) = ((fps.getD i nofp).rd,(fps.getD i nofp).wr) := by
 simp only [List.getD_eq_getElem?_getD,List.getElem?_map]
 cases fps[i]? <;> rfl
theorem W.regionD {specs : NL Spec} (hm : P.follows .mixedOrders = true) (hsp : ∀ p ∈ specs,FnC P p.1 p.2.fn) {c : Code} {fs : List Fr} {id : Nat} {ops : Array Oper} (hc : c = .region id ops true) {σ σ' : AS} {fps : List FP} {rw' : List (List Nat × List Nat)}
   (hr : runF P (specOf specs) 0 ops ops.toList σ = some (σ',fps)) (hrw : (fps.map fun f=>(f.rd,f.wr)) = rw') (ho : drawOK ops rw' = true) (h : asAll fps → N P Q fs σ') : W P Q c fs σ:=by
 refine ⟨?_⟩
 rw [hc]
 refine WP.region (kk:=0) hm (specOf_ok hsp) (A:=asAll fps) ?_ fun hA=>(h hA).h
 subst hrw
 unfold drawOK at ho
 simp only [runR,runD]
 split at ho
 · rename_i l hl
   simp only [hl,hr]
   rw [if_pos]
   rw [← ho]
   congr 1
   funext p
   rw [fp_getD,fp_getD]
   rfl
 · cases ho
theorem W.loop {c : Code} {fs : List Fr} {σ : AS} (hc : c = .loop (cL c)) {ι : Type} (J : ι → AS) (m : ι → Nat) (i : ι) (h0 : AS.le (J i) σ)
   (step : ∀ i,W P Q (cL c) (.loop (fun σ' => ∃ j,m j < m i ∧ AS.le (J j) σ') :: fs) (J i)) : W P Q c fs σ:=by
 refine ⟨?_⟩
 rw [hc]
 exact WP.loop J m (fun i=>(step i).h.mono fun e σ h=>by cases e <;> exact h) i h0
theorem W.weak {c : Code} {fs : List Fr} {σ σ' : AS} (hl : AS.le σ' σ) (h : W P Q c fs σ') : W P Q c fs σ := ⟨WP.weak hl h.h⟩
def Ret (P : Program) (fn : Func) (r : AV) (B : List ABlk) (σ : AS) : Prop :=
 ∃ xs,resVs P σ fn.results.toList = some xs ∧
   ((B = [] ∧ ∃ out,(frzT (pack xs) .ret).run σ.heap = some out ∧ out.val = r ∧ inlT r = true) ∨
    (∃ exp : List Nat,exp.Nodup ∧ exp.map (expB σ.heap) = B.map some ∧ r = (pack xs).ren (expF exp σ.heap)))
theorem Ret.data {fn : Func} {r : AV} {σ : AS} {xs : List AV} {H : NL ABlk} {rd wr : List Nat} {A : Prop} {rs : List ResultVar} (h0 : fn.results.toList = rs) (h1 : resVs P σ rs = some xs) (h2 : (frzT (pack xs) .ret).run σ.heap = some ⟨r,H,rd,wr,A⟩) (h3 : inlT r = true) : Ret P fn r [] σ :=
 ⟨xs,by rw [h0]; exact h1, .inl ⟨rfl,_,h2,rfl,h3⟩⟩
theorem Ret.news {fn : Func} {r : AV} {B : List ABlk} {σ : AS} {xs : List AV} {rs : List ResultVar} (exp : List Nat) (h0 : fn.results.toList = rs) (h1 : resVs P σ rs = some xs) (h2 : exp.Nodup) (h3 : exp.map (expB σ.heap) = B.map some) (h4 : r = (pack xs).ren (expF exp σ.heap)) : Ret P fn r B σ :=
 ⟨xs,by rw [h0]; exact h1, .inr ⟨exp,h2,h3,h4⟩⟩
theorem FnC.walk {α : Type} {enc : α → List AV} {res : α → AV × List ABlk} (f : FuncId) {fn : Func} (hf : P.funcs[f]? = some fn) (hb : fn.body = some (codeOf fn)) (hname : (fn.name == "runtime.NumGoroutine") = false)
   (h : ∀ x,W P (Ret P fn (res x).1 (res x).2) (codeOf fn) [] (init fn (enc x))) : FnC P f (mkS enc res) :=
 FnC.ofEnc f hf hb hname fun x=>(h x).h.mono fun _ _ h=>h
end
section
theorem w64 {x : Int} (h1 : -9223372036854775808 ≤ x) (h2 : x ≤ 9223372036854775807) : IntKind.i64.wrap x = x := IntWalk.i64_in x ⟨h1,h2⟩
theorem wu64 {x : Int} (h1 : 0 ≤ x) (h2 : x ≤ 18446744073709551615) : IntKind.u64.wrap x = x := IntWalk.u64_in x ⟨h1,h2⟩
theorem get_lt {α : Type} {l : List α} {i : Nat} (h : i < l.length) : ∃ x,l[i]? = some x := ⟨l[i],List.getElem?_eq_getElem h⟩
theorem no_specs {P : Program} : ∀ p ∈ ([] : NL Spec),FnC P p.1 p.2.fn := by simp
@[simp] theorem cellish_bool (b : Bool) : AV.cellish (AV.bool b) = true := (rfl)
@[simp] theorem isInl_bool (b : Bool) : AV.isInl (AV.bool b) = true := (rfl)
@[simp] theorem flat1_bool (b : Bool) : AV.flat1 (AV.bool b) = true := (rfl)
@[simp] theorem cellish_int (k : IntKind) (n : Int) : AV.cellish (AV.int k n) = true := (rfl)
@[simp] theorem isInl_int (k : IntKind) (n : Int) : AV.isInl (AV.int k n) = true := (rfl)
@[simp] theorem flat1_int (k : IntKind) (n : Int) : AV.flat1 (AV.int k n) = true := (rfl)
@[simp] theorem cellish_str (s : ByteArray) : AV.cellish (AV.str s) = true := (rfl)
@[simp] theorem isInl_str (s : ByteArray) : AV.isInl (AV.str s) = true := (rfl)
@[simp] theorem flat1_str (s : ByteArray) : AV.flat1 (AV.str s) = true := (rfl)
@[simp] theorem cellish_nilp : AV.cellish (AV.nilp) = true := (rfl)
@[simp] theorem isInl_nilp : AV.isInl (AV.nilp) = true := (rfl)
@[simp] theorem flat1_nilp : AV.flat1 (AV.nilp) = true := (rfl)
@[simp] theorem cellish_cptr (cs : List AV) : AV.cellish (AV.cptr cs) = true := (rfl)
@[simp] theorem isInl_cptr (cs : List AV) : AV.isInl (AV.cptr cs) = true := (rfl)
@[simp] theorem flat1_cptr (cs : List AV) : AV.flat1 (AV.cptr cs) = false := (rfl)
@[simp] theorem cellish_nils : AV.cellish (AV.nils) = true := (rfl)
@[simp] theorem isInl_nils : AV.isInl (AV.nils) = true := (rfl)
@[simp] theorem flat1_nils : AV.flat1 (AV.nils) = true := (rfl)
@[simp] theorem cellish_list (z : Nat) (rows : List (List AV)) : AV.cellish (AV.list z rows) = true := (rfl)
@[simp] theorem isInl_list (z : Nat) (rows : List (List AV)) : AV.isInl (AV.list z rows) = true := (rfl)
@[simp] theorem flat1_list (z : Nat) (rows : List (List AV)) : AV.flat1 (AV.list z rows) = false := (rfl)
@[simp] theorem cellish_nilf : AV.cellish (AV.nilf) = true := (rfl)
@[simp] theorem isInl_nilf : AV.isInl (AV.nilf) = true := (rfl)
@[simp] theorem flat1_nilf : AV.flat1 (AV.nilf) = true := (rfl)
@[simp] theorem cellish_nilm : AV.cellish (AV.nilm) = true := (rfl)
@[simp] theorem isInl_nilm : AV.isInl (AV.nilm) = true := (rfl)
@[simp] theorem flat1_nilm : AV.flat1 (AV.nilm) = true := (rfl)
@[simp] theorem cellish_ptr (i : Nat) (g : Nat) (r : Nat) (o : Nat) : AV.cellish (AV.ptr i g r o) = true := (rfl)
@[simp] theorem isInl_ptr (i : Nat) (g : Nat) (r : Nat) (o : Nat) : AV.isInl (AV.ptr i g r o) = false := (rfl)
@[simp] theorem flat1_ptr (i : Nat) (g : Nat) (r : Nat) (o : Nat) : AV.flat1 (AV.ptr i g r o) = false := (rfl)
@[simp] theorem cellish_sl (i : Nat) (g : Nat) (o : Nat) (l : Nat) : AV.cellish (AV.sl i g o l) = true := (rfl)
@[simp] theorem isInl_sl (i : Nat) (g : Nat) (o : Nat) (l : Nat) : AV.isInl (AV.sl i g o l) = false := (rfl)
@[simp] theorem flat1_sl (i : Nat) (g : Nat) (o : Nat) (l : Nat) : AV.flat1 (AV.sl i g o l) = false := (rfl)
@[simp] theorem cellish_amap (i : Nat) (g : Nat) : AV.cellish (AV.amap i g) = true := (rfl)
@[simp] theorem isInl_amap (i : Nat) (g : Nat) : AV.isInl (AV.amap i g) = false := (rfl)
@[simp] theorem flat1_amap (i : Nat) (g : Nat) : AV.flat1 (AV.amap i g) = false := (rfl)
@[simp] theorem cellish_psl (i : Nat) (g : Nat) (r : Nat) (o : Nat) (l : Nat) : AV.cellish (AV.psl i g r o l) = true := (rfl)
@[simp] theorem cellish_slc (i : Nat) (g : Nat) (r : Nat) (o : Nat) (l : Nat) : AV.cellish (AV.slc i g r o l) = false := (rfl)
@[simp] theorem isInl_psl (i : Nat) (g : Nat) (r : Nat) (o : Nat) (l : Nat) : AV.isInl (AV.psl i g r o l) = false := (rfl)
@[simp] theorem isInl_slc (i : Nat) (g : Nat) (r : Nat) (o : Nat) (l : Nat) : AV.isInl (AV.slc i g r o l) = false := (rfl)
@[simp] theorem flat1_psl (i : Nat) (g : Nat) (r : Nat) (o : Nat) (l : Nat) : AV.flat1 (AV.psl i g r o l) = false := (rfl)
@[simp] theorem flat1_slc (i : Nat) (g : Nat) (r : Nat) (o : Nat) (l : Nat) : AV.flat1 (AV.slc i g r o l) = false := (rfl)
@[simp] theorem cellish_fn (f : Fn) (a b : List AV) : AV.cellish (.fn f a b) = true := (rfl)
@[simp] theorem isInl_fn (f : Fn) : AV.isInl (.fn f [] []) = true := (rfl)
@[simp] theorem cellish_agg (cs : List AV) : AV.cellish (.agg cs) = false := (rfl)
@[simp] theorem isInl_agg (cs : List AV) : AV.isInl (.agg cs) = false := (rfl)
@[simp] theorem isInl_tup (cs : List AV) : AV.isInl (.tup cs) = false := (rfl)
@[simp] theorem cellish_tup (cs : List AV) : AV.cellish (.tup cs) = false := (rfl)
@[simp] theorem cellish_any : AV.cellish .any = false := (rfl)
theorem frz1_inl {x : AV} (h : x.isInl = true) (k : AV → AP AV) : frz1 x k = k x := by
 unfold frz1
 split
 · simp at h
 · rw [if_pos h]
theorem brw1_inl {x : AV} (h : x.isInl = true) (k : AV → AP AV) : brw1 x k = k x := by
 unfold brw1
 split
 · simp at h
 · rw [if_pos h]
def AV.inl2 : AV → Bool
 | .agg cs=>cs.all AV.isInl
 | x=>x.isInl
@[simp] theorem inl2_agg (cs : List AV) : AV.inl2 (.agg cs) = cs.all AV.isInl := (rfl)
@[simp] theorem inl2_fn (f : Fn) : AV.inl2 (.fn f [] []) = true := (rfl)
@[simp] theorem inl2_tup (cs : List AV) : AV.inl2 (.tup cs) = false := (rfl)
@[simp] theorem inl2_bool (b : Bool) : AV.inl2 (AV.bool b) = true := (rfl)
@[simp] theorem inl2_int (k : IntKind) (n : Int) : AV.inl2 (AV.int k n) = true := (rfl)
@[simp] theorem inl2_str (s : ByteArray) : AV.inl2 (AV.str s) = true := (rfl)
@[simp] theorem inl2_nilp : AV.inl2 (AV.nilp) = true := (rfl)
@[simp] theorem inl2_cptr (cs : List AV) : AV.inl2 (AV.cptr cs) = true := (rfl)
@[simp] theorem inl2_nils : AV.inl2 (AV.nils) = true := (rfl)
@[simp] theorem inl2_list (z : Nat) (rows : List (List AV)) : AV.inl2 (AV.list z rows) = true := (rfl)
@[simp] theorem inl2_nilf : AV.inl2 (AV.nilf) = true := (rfl)
@[simp] theorem inl2_nilm : AV.inl2 (AV.nilm) = true := (rfl)
@[simp] theorem inl2_ptr (i : Nat) (g : Nat) (r : Nat) (o : Nat) : AV.inl2 (AV.ptr i g r o) = false := (rfl)
@[simp] theorem inl2_sl (i : Nat) (g : Nat) (o : Nat) (l : Nat) : AV.inl2 (AV.sl i g o l) = false := (rfl)
@[simp] theorem inl2_amap (i : Nat) (g : Nat) : AV.inl2 (AV.amap i g) = false := (rfl)
@[simp] theorem inl2_psl (i : Nat) (g : Nat) (r : Nat) (o : Nat) (l : Nat) : AV.inl2 (AV.psl i g r o l) = false := (rfl)
@[simp] theorem inl2_slc (i : Nat) (g : Nat) (r : Nat) (o : Nat) (l : Nat) : AV.inl2 (AV.slc i g r o l) = false := (rfl)
@[simp high] theorem frzL_inl : ∀ {l : List AV} (_ : l.all AV.isInl = true) (k : List AV → AP AV),frzL l k = k l
 | [],_,_=>rfl
 | x :: l,h,k=>by
   simp only [List.all_cons,Bool.and_eq_true] at h
   simp only [frzL]
   rw [frz1_inl h.1,frzL_inl h.2]
@[simp high] theorem brwL_inl : ∀ {l : List AV} (_ : l.all AV.isInl = true) (k : List AV → AP AV),brwL l k = k l
 | [],_,_=>rfl
 | x :: l,h,k=>by
   simp only [List.all_cons,Bool.and_eq_true] at h
   simp only [brwL]
   rw [brw1_inl h.1,brwL_inl h.2]
theorem inl2_cases {x : AV} (h : x.inl2 = true) : (∃ cs,x = .agg cs ∧ cs.all AV.isInl = true) ∨ (∃ f,x = .fn f [] []) ∨ (x.isInl = true ∧ (∀ cs,x ≠ .agg cs) ∧ (∀ cs,x ≠ .tup cs) ∧ ∀ f a b,x ≠ .fn f a b) := by
 cases x with
 | agg cs=>exact .inl ⟨cs,rfl,h⟩
 | fn f a b =>
   cases a <;> cases b <;> first
     | exact .inr (.inl ⟨f,rfl⟩)
     | cases h
 | tup cs=>cases h
 | _=>exact .inr (.inr ⟨h,by simp,by simp,by simp⟩)
@[simp high] theorem frzV_inl {x : AV} (h : x.inl2 = true) (k : AV → AP AV) : frzV x k = k x := by
 rcases inl2_cases h with ⟨cs,rfl,h⟩ | ⟨f,rfl⟩ | ⟨h,h1,h2,h3⟩
 · simp only [frzV]; exact frzL_inl h _
 · rfl
 · unfold frzV
   split
   · exact absurd rfl (h1 _)
   · exact absurd rfl (h2 _)
   · exact absurd rfl (h3 _ _ _)
   · exact frz1_inl h k
@[simp high] theorem brwV_inl {x : AV} (h : x.inl2 = true) (k : AV → AP AV) : brwV x k = k x := by
 rcases inl2_cases h with ⟨cs,rfl,h⟩ | ⟨f,rfl⟩ | ⟨h,h1,h2,h3⟩
 · simp only [brwV]; exact brwL_inl h _
 · rfl
 · unfold brwV
   split
   · exact absurd rfl (h1 _)
   · exact absurd rfl (h2 _)
   · exact absurd rfl (h3 _ _ _)
   · exact brw1_inl h k
@[simp high] theorem frzVs_inl : ∀ {l : List AV} (_ : l.all AV.inl2 = true) (k : List AV → AP AV),frzVs l k = k l
 | [],_,_=>rfl
 | x :: l,h,k=>by
   simp only [List.all_cons,Bool.and_eq_true] at h
   simp only [frzVs]
   rw [frzV_inl h.1,frzVs_inl h.2]
@[simp high] theorem brwVs_inl : ∀ {l : List AV} (_ : l.all AV.inl2 = true) (k : List AV → AP AV),brwVs l k = k l
 | [],_,_=>rfl
 | x :: l,h,k=>by
   simp only [List.all_cons,Bool.and_eq_true] at h
   simp only [brwVs]
   rw [brwV_inl h.1,brwVs_inl h.2]
@[simp high] theorem frzP_inl : ∀ {l : List (Nat × AV)} (_ : l.all (fun p => p.2.inl2) = true) (k : List (Nat × AV) → AP AV),frzP l k = k l
 | [],_,_=>rfl
 | (i,x) :: l,h,k=>by
   simp only [List.all_cons,Bool.and_eq_true] at h
   simp only [frzP]
   rw [frzV_inl h.1,frzP_inl h.2]
end
end Go.Abs
