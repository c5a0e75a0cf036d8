/- Walks through regions with open conditions: case by case. Conditions: none. -/
import Derived.Test.YtphclapfniepoaaAb8
import Derived.Test.YtphclapfniepoaaAb7
import Derived.KernelRfl
import Derived.Scope
import Derived.Sort.Grow
namespace Go.Abs
open Go
set_option linter.unusedSimpArgs false
set_option linter.unusedVariables false
section
variable {P : Program}
def TEq (ts ts' : NL AV) : Prop := ∀ t,lk ts t = lk ts' t
theorem ev_congr {n m : Nat} {ts ts' : NL AV} {H H' : NL ABlk} (h : TEq ts ts') : (AS.mk n ts H).ev = (AS.mk m ts' H').ev := by
 funext x
 cases x with
 | tmp t=>simp only [AS.ev,h t]
 | _=>rfl
theorem putA_congr {n : Nat} {ts ts' : NL AV} {H H' : NL ABlk} (h : TEq ts ts') {d : Option Nat} {x : AV} {us : NL AV} (hp : putA ⟨n,ts,H⟩ d x = some us) : ∃ us',putA ⟨n,ts',H'⟩ d x = some us' ∧ TEq us us' := by
 cases d with
 | none =>
   simp only [putA,Option.some.injEq] at hp ⊢
   subst hp
   exact ⟨_,rfl,h⟩
 | some d =>
   simp only [putA] at hp ⊢
   split at hp
   · rename_i hd
     simp only [Option.some.injEq] at hp
     subst hp
     refine ⟨_,if_pos hd,fun t=>?_⟩
     simp only [lk]
     split
     · rfl
     · exact h t
   · cases hp
theorem execA_congr {specs : FuncId → Option Spec} {kk n : Nat} {ts ts' : NL AV} {H : NL ABlk} (h : TEq ts ts') {o : Oper} {σ' : AS} {fp : FP} (he : execA P specs kk ⟨n,ts,H⟩ o = some (σ',fp)) :
   ∃ us,execA P specs kk ⟨n,ts',H⟩ o = some (⟨σ'.n,us, σ'.heap⟩,fp) ∧ TEq σ'.tmps us:=by
 unfold execA at he ⊢
 rw [← ev_congr (n:=n) (m:=n) (H:=H) (H':=H) h]
 split at he
 · rename_i out ho
   split at he
   · rename_i us hus
     simp only [Option.some.injEq,Prod.mk.injEq] at he
     obtain ⟨rfl,rfl⟩:=he
     obtain ⟨us',h1,h2⟩:=putA_congr (H':=H) h hus
     exact ⟨us',by simp only [ho,h1],h2⟩
   · cases he
 · cases he
theorem skipA_congr {n : Nat} {ts ts' : NL AV} {H : NL ABlk} (h : TEq ts ts') {o : Oper} {σ' : AS} {fp : FP} (he : skipA ⟨n,ts,H⟩ o = some (σ',fp)) :
   ∃ us,skipA ⟨n,ts',H⟩ o = some (⟨σ'.n,us, σ'.heap⟩,fp) ∧ TEq σ'.tmps us:=by
 unfold skipA at he ⊢
 split at he
 · rename_i us hus
   simp only [Option.some.injEq,Prod.mk.injEq] at he
   obtain ⟨rfl,rfl⟩:=he
   obtain ⟨us',h1,h2⟩:=putA_congr (H':=H) h hus
   exact ⟨us',by simp only [h1],h2⟩
 · cases he
theorem stepA_congr {specs : FuncId → Option Spec} {kk n : Nat} {ops : Array Oper} {ts ts' : NL AV} {H : NL ABlk} (h : TEq ts ts') {o : Oper} {σ' : AS} {fp : FP} (he : stepA P specs kk ops ⟨n,ts,H⟩ o = some (σ',fp)) :
   ∃ us,stepA P specs kk ops ⟨n,ts',H⟩ o = some (⟨σ'.n,us, σ'.heap⟩,fp) ∧ TEq σ'.tmps us:=by
 unfold stepA at he ⊢
 split at he
 · exact execA_congr h he
 · rename_i j want hg
   split at he
   · rename_i d hd
     have hd':=h d
     dsimp only at he
     split at he
     · rename_i b hb
       rw [hb] at hd'
       simp only [hd, ← hd']
       split at he
       · rename_i e; rw [if_pos e]; exact execA_congr h he
       · rename_i e; rw [if_neg e]; exact skipA_congr h he
     · rename_i xs hb
       rw [hb] at hd'
       simp only [hd, ← hd']
       exact skipA_congr h he
     · cases he
   · cases he
theorem runF_congr {specs : FuncId → Option Spec} {kk : Nat} {ops : Array Oper} : ∀ (l : List Oper) {n : Nat} {ts ts' : NL AV} {H : NL ABlk} (_ : TEq ts ts') {σ' : AS} {fps : List FP} (_ : runF P specs kk ops l ⟨n,ts,H⟩ = some (σ',fps)),
   ∃ us,runF P specs kk ops l ⟨n,ts',H⟩ = some (⟨σ'.n,us, σ'.heap⟩,fps) ∧ TEq σ'.tmps us
 | [],n,ts,ts',H,h, σ',fps,he=>by
   simp only [runF,Option.some.injEq,Prod.mk.injEq] at he ⊢
   obtain ⟨rfl,rfl⟩:=he
   exact ⟨ts',⟨rfl,rfl⟩,h⟩
 | o :: r,n,ts,ts',H,h, σ',fps,he=>by
   simp only [runF] at he ⊢
   split at he
   · rename_i σ1 fp hs
     obtain ⟨us,h1,h2⟩:=stepA_congr h hs
     split at he
     · rename_i σ2 fs hr
       simp only [Option.some.injEq,Prod.mk.injEq] at he
       obtain ⟨rfl,rfl⟩:=he
       obtain ⟨vs,h3,h4⟩:=runF_congr r h2 hr
       exact ⟨vs,by simp only [h1,h3],h4⟩
     · cases he
   · cases he
theorem runL_runF {specs : FuncId → Option Spec} {kk : Nat} {ops : Array Oper} : ∀ (l : List Oper) {σ σ' : AS} {fps : List FP} (_ : runF P specs kk ops l σ = some (σ',fps)), ∃ A,runL P specs kk ops l σ = some (σ',A) ∧ (A → asAll fps)
 | [], σ, σ',fps,he=>by
   simp only [runF,Option.some.injEq,Prod.mk.injEq] at he
   obtain ⟨rfl,rfl⟩:=he
   exact ⟨True,rfl,fun _=>trivial⟩
 | o :: r, σ, σ',fps,he=>by
   simp only [runF] at he
   simp only [runL]
   split at he
   · rename_i σ1 fp hs
     split at he
     · rename_i σ2 fs hr
       simp only [Option.some.injEq,Prod.mk.injEq] at he
       obtain ⟨rfl,rfl⟩:=he
       obtain ⟨A,h1,h2⟩:=runL_runF r hr
       exact ⟨fp.as ∧ A,by simp only [hs,h1],fun hA=>⟨hA.1,h2 hA.2⟩⟩
     · cases he
   · cases he
def stopG (ops : Array Oper) (kn : List Nat) (o : Oper) : Bool := match o.guard with
 | none=>false
 | some (j,_)=>match gdst ops j with
   | some d => !kn.contains d
   | none=>false
def runG (P : Program) (specs : FuncId → Option Spec) (kk : Nat) (ops : Array Oper) (kn : List Nat) : List Oper → AS → Option (AS × List FP × List Oper)
 | [], σ=>some (σ,[],[])
 | o :: r, σ=>if stopG ops kn o then some (σ,[],o :: r) else match stepA P specs kk ops σ o with
   | some (σ',fp)=>match runG P specs kk ops kn r σ' with
     | some (σ'',fs,rest)=>some (σ'',fp :: fs,rest)
     | none=>none
   | none=>none
theorem runG_F {specs : FuncId → Option Spec} {kk : Nat} {ops : Array Oper} {kn : List Nat} : ∀ (l : List Oper) {σ σ1 σ2 : AS} {f1 f2 : List FP} {rest : List Oper} (_ : runG P specs kk ops kn l σ = some (σ1,f1,rest)) (_ : runF P specs kk ops rest σ1 = some (σ2,f2)),runF P specs kk ops l σ = some (σ2,f1 ++ f2)
 | [], σ, σ1, σ2,f1,f2,rest,h,h2=>by
   simp only [runG,Option.some.injEq,Prod.mk.injEq] at h
   obtain ⟨rfl,rfl,rfl⟩:=h
   exact h2
 | o :: r, σ, σ1, σ2,f1,f2,rest,h,h2=>by
   simp only [runG] at h
   split at h
   · simp only [Option.some.injEq,Prod.mk.injEq] at h
     obtain ⟨rfl,rfl,rfl⟩:=h
     exact h2
   · split at h
     · rename_i σ3 fp hs
       split at h
       · rename_i σ4 fs rest' hr
         simp only [Option.some.injEq,Prod.mk.injEq] at h
         obtain ⟨rfl,rfl,rfl⟩:=h
         simp only [runF,hs,runG_F r hr h2,List.cons_append]
       · cases h
     · cases h
theorem asAll_append : ∀ (a b : List FP),asAll (a ++ b) → asAll a ∧ asAll b
 | [],b,h=>⟨trivial,h⟩
 | x :: a,b,h=>⟨⟨h.1,(asAll_append a b h.2).1⟩,(asAll_append a b h.2).2⟩
theorem Ret.dataE {P : Program} {fn : Func} {r r0 : AV} {σ : AS} {xs : List AV} {H : NL ABlk} {rd wr : List Nat} {A : Prop} {rs : List ResultVar} (h0 : fn.results.toList = rs) (h1 : resVs P σ rs = some xs) (h2 : frzTR (pack xs) σ.heap = some ⟨r0,H,rd,wr,A⟩) (h3 : inlT r0 = true) (h4 : r0 = r) : Ret P fn r [] σ :=
 h4 ▸ Ret.dataR h0 h1 h2 h3
theorem RetNf.dataE {P : Program} {fn : Func} {ts : List TypeId} {r r0 : AV} {σ : AS} {xs : List AV} {H : NL ABlk} {rd wr : List Nat} {A : Prop} {rs : List ResultVar} (h0 : fn.results.toList = rs) (h1 : resVs P σ rs = some xs) (h2 : frzTR (pack xs) σ.heap = some ⟨r0,H,rd,wr,A⟩) (h3 : inlT r0 = true) (h4 : nrmR P ts r0 = r) : RetNf P fn ts r [] σ :=
 ⟨r0,Ret.dataR h0 h1 h2 h3,h4⟩
theorem RetB.raw {P : Program} {fn : Func} {k : Nat} {r : AV} {B : List ABlk} {σ : AS} {rs : List ResultVar} {xs : List AV} (exp : List Nat) (h0 : fn.results.toList = rs) (h1 : resVs P σ rs = some xs)
   (h3 : exp.Nodup) (h4 : ∀ i,i < k → exp[i]? = some i ∧ (lk σ.heap i).map (·.gen) = some 0) (h5 : exp.map (expB2 exp σ.heap) = B.map some) (h6 : (pack xs).ren (expF exp σ.heap) = r) : RetB P fn k r B σ:=by
 refine ⟨xs,by rw [h0]; exact h1,false,⟨pack xs, σ.heap,[],[],True⟩, ?_,exp,h3,h4,h5,h6.symm⟩
 simp [frqT,AP.run]
theorem RetBN.dataE {P : Program} {fn : Func} {ts : List TypeId} {k : Nat} {r r0 r1 : AV} {B : List ABlk} {σ : AS} {rs : List ResultVar} {xs : List AV} {H : NL ABlk} {rd wr : List Nat} {A : Prop} (fz : Bool) (exp : List Nat) (h0 : fn.results.toList = rs) (h1 : resVs P σ rs = some xs)
   (h2 : (frqT fz (pack xs)).run σ.heap = some ⟨r0,H,rd,wr,A⟩) (h3 : exp.Nodup) (h4 : ∀ i,i < k → exp[i]? = some i ∧ (lk H i).map (·.gen) = some 0) (h5 : exp.map (expB2 exp H) = B.map some) (h6 : r0.ren (expF exp H) = r1) (h7 : nrmR P ts r1 = r) : RetBN P fn ts k r B σ :=
 ⟨r1,RetB.mk fz exp h0 h1 h2 h3 h4 h5 h6,h7⟩
def seqFr : List Fr → Bool
 | .seq _ :: _=>true
 | .blk _ :: r=>seqFr r
 | _=>false
def headStop (ops : Array Oper) (kn : List Nat) : List Oper → Bool
 | o :: _=>stopG ops kn o
 | []=>true
theorem nrmL_get (ts : List TypeId) : ∀ (xs : List AV) (j : Nat) (y : AV),(nrmL P ts xs)[j]? = some y → ∃ x t,xs[j]? = some x ∧ (y = nrmV P t x ∨ y = x) := by
 induction ts with
 | nil =>
   intro xs j y h
   rw [nrmL_nil] at h
   exact ⟨y,0,h, .inr rfl⟩
 | cons t ts ih =>
   intro xs j y h
   cases xs with
   | nil=>simp [nrmL] at h
   | cons x xs =>
     simp only [nrmL] at h
     cases j with
     | zero =>
       simp only [List.getElem?_cons_zero,Option.some.injEq] at h
       exact ⟨x,t,rfl, .inl h.symm⟩
     | succ j =>
       simp only [List.getElem?_cons_succ] at h ⊢
       exact ih xs j y h
theorem norm_env {n : Nat} {ts : NL AV} {H : NL ABlk} (id : Nat) (ws : List TypeId) {blk : ABlk} (hb : lk H id = some blk) (hk : blk.kind = 2) :
   ∀ a E,SR ⟨n,ts,H⟩ a E → ∃ E1,E1.w = E.w ∧ Step E E1 ∧ SR ⟨n,ts,st H id { blk with rows:=blk.rows.map (nrmL P ws) }⟩ a E1:=fun a E hs=>by
 have hbE : E.H id = some blk:=by rw [hs.heap]; exact hb
 obtain ⟨C,hC,hcs,hsz,hlen,hrl,hcell⟩:=hs.hr.cells hbE (.inr hk)
 rcases Nat.eq_zero_or_pos (E.cs id) with h0 | hcp
 · have hrows : blk.rows = []:=by
     refine List.eq_nil_of_length_eq_zero ?_
     rcases Nat.eq_zero_or_pos blk.rows.length with q | q
     · exact q
     · have:=Nat.mul_pos q hsz; omega
   have he : ({ blk with rows:=blk.rows.map (nrmL P ws) } : ABlk) = blk:=by
     obtain ⟨a,b,c,d,e,f⟩:=blk
     dsimp only at hrows
     subst hrows
     rfl
   rw [he]
   refine ⟨E,rfl,Step.refl E,⟨?_,hs.hr,hs.defers,hs.size,hs.tmps⟩⟩
   show E.H = lk (st H id blk)
   rw [lk_st_upd, ← hs.heap]
   funext k
   by_cases e : id = k
   · subst e; rw [upd_same,hbE]
   · rw [upd_other _ _ _ e]
 · obtain ⟨q1,q2⟩:=hs.hr.write (blk':={ blk with rows:=blk.rows.map (nrmL P ws) }) (C:=C) (w':=E.w) hbE hk hcp ⟨rfl,rfl,rfl,rfl⟩ (fun _ _=>rfl) (hC hcp) hcs hk (Nat.le_refl _) rfl rfl
     (by
       show (blk.rows.map (nrmL P ws)).length * blk.size ≤ C.size
       rw [List.length_map]; exact hlen)
     (fun r row h=>by
       simp only [List.getElem?_map,Option.map_eq_some_iff] at h
       obtain ⟨row0,h1,rfl⟩:=h
       rw [nrmL_len]
       exact hrl r row0 h1)
     (fun r row j y h hy=>by
       simp only [List.getElem?_map,Option.map_eq_some_iff] at h
       obtain ⟨row0,h1,rfl⟩:=h
       obtain ⟨x,t,hx,hyx⟩:=nrmL_get ws row0 j y hy
       obtain ⟨u,k1,k2,k3⟩:=hcell r row0 j x h1 hx
       refine ⟨u,k1,k2, ?_⟩
       rcases hyx with rfl | rfl
       · unfold CellR at k3 ⊢
         dsimp only
         cases hi : blk.inl with
         | true=>rw [hi] at k3; exact nrmV_repI t x u k3
         | false=>rw [hi] at k3; exact nrmV_rep t x u k3
       · exact k3)
   refine ⟨⟨E.w,upd E.H id (some { blk with rows:=blk.rows.map (nrmL P ws) }),E.φ,E.cs,E.F⟩,rfl,q2, ?_,q1,hs.defers,hs.size,fun t' x hx=>?_⟩
   · show upd E.H id _ = lk (st H id _)
     rw [lk_st_upd, ← hs.heap]
   · obtain ⟨v,hv,hx⟩:=hs.tmps t' x hx
     exact ⟨v,hv,Rep.mono q2 _ _ hx⟩
theorem W.nrmB {Q : AS → Prop} {c : Code} {fs : List Fr} {n : Nat} {ts : NL AV} {H : NL ABlk} (id : Nat) (ws : List TypeId) {blk : ABlk} (hb : lk H id = some blk) (hk : blk.kind = 2)
   (h : W P Q c fs ⟨n,ts,st H id { blk with rows:=blk.rows.map (nrmL P ws) }⟩) : W P Q c fs ⟨n,ts,H⟩:=W.env (norm_env id ws hb hk) h
structure RW (P : Program) (Q : AS → Prop) (specs : NL Spec) (ops : Array Oper) (draw : Bool) (fs : List Fr) (kn : List Nat) (acc : List (List Nat × List Nat)) (B : Prop) (l : List Oper) (σ : AS) : Prop where
 h : ∃ σ' fps,runF P (specOf specs) 0 ops l σ = some (σ',fps) ∧ (draw = true → drawOK ops (acc ++ fps.map fun f=>(f.rd,f.wr)) = true) ∧ (B → asAll fps → N P Q fs σ')
section
variable {Q : AS → Prop} {specs : NL Spec} {ops : Array Oper} {fs : List Fr} {kn : List Nat} {acc : List (List Nat × List Nat)} {B : Prop} {l : List Oper} {σ : AS}
theorem W.reg {c : Code} {id : Nat} {d : Bool} (hm : P.follows .mixedOrders = true) (hsp : ∀ p ∈ specs,FnC P p.1 p.2.fn) (hc : c = .region id ops d) (h : RW P Q specs ops d fs [] [] True ops.toList σ) : W P Q c fs σ := by
 obtain ⟨σ',fps,h1,h2,h3⟩:=h.h
 cases d with
 | false =>
   obtain ⟨A,h4,h5⟩:=runL_runF _ h1
   exact W.region hm hsp hc h4 fun hA=>h3 trivial (h5 hA)
 | true=>exact W.regionD hm hsp hc h1 rfl (by simpa using h2 rfl) (h3 trivial)
theorem RW.done (h : B → N P Q fs σ) : RW P Q specs ops false fs kn acc B [] σ := ⟨σ,[],rfl,(fun e => by cases e),fun hB _ => h hB⟩
theorem RW.doneD (hd : drawOK ops acc = true) (h : B → N P Q fs σ) : RW P Q specs ops true fs kn acc B [] σ := ⟨σ,[],rfl,fun _ => by simpa using hd,fun hB _ => h hB⟩
theorem RW.donz (h : N P Q fs σ) : RW P Q specs ops false fs kn acc B [] σ := RW.done fun _ => h
theorem RW.donzD (hd : drawOK ops acc = true) (h : N P Q fs σ) : RW P Q specs ops true fs kn acc B [] σ := RW.doneD hd fun _ => h
theorem RW.run {d : Bool} {σ1 : AS} {f1 : List FP} {rest : List Oper} {acc' : List (List Nat × List Nat)} (hp : headStop ops kn l = false) (hr : runG P (specOf specs) 0 ops kn l σ = some (σ1,f1,rest)) (ha : acc ++ (f1.map fun f => (f.rd,f.wr)) = acc') (h : RW P Q specs ops d fs kn acc' (B ∧ asAll f1) rest σ1) : RW P Q specs ops d fs kn acc B l σ := by
 obtain ⟨σ',fps,h1,h2,h3⟩:=h.h
 refine ⟨σ',f1 ++ fps,runG_F l hr h1,fun e=>?_,fun hB hh=>h3 ⟨hB,(asAll_append _ _ hh).1⟩ (asAll_append _ _ hh).2⟩
 rw [List.map_append, ← List.append_assoc,ha]
 exact h2 e
theorem RW.runL {σ1 : AS} {f1 : List FP} {rest : List Oper} (hp : headStop ops kn l = false) (hr : runG P (specOf specs) 0 ops kn l σ = some (σ1,f1,rest)) (h : RW P Q specs ops false fs kn [] (B ∧ asAll f1) rest σ1) : RW P Q specs ops false fs kn acc B l σ := by
 obtain ⟨σ',fps,h1,h2,h3⟩:=h.h
 exact ⟨σ',f1 ++ fps,runG_F l hr h1,(fun e=>by cases e),fun hB hh=>h3 ⟨hB,(asAll_append _ _ hh).1⟩ (asAll_append _ _ hh).2⟩
def headG (ops : Array Oper) : List Oper → Option Nat
 | o :: _=>match o.guard with
   | some (j,_)=>gdst ops j
   | none=>none
 | []=>none
theorem RW.gU {d : Bool} {t : Nat} {xs : List AV} (ht : headG ops l = some t) (hk : kn.contains t = false) (hv : lk σ.tmps t = some (.tup xs)) (h : RW P Q specs ops d fs (t :: kn) acc B l σ) : RW P Q specs ops d fs kn acc B l σ := ⟨h.h⟩
theorem RW.hT {d : Bool} {t : Nat} {b : Bool} (ht : headG ops l = some t) (hk : kn.contains t = false) (hv : lk σ.tmps t = some (.bool b)) (hb : b = true) (h : RW P Q specs ops d fs (t :: kn) acc B l σ) : RW P Q specs ops d fs kn acc B l σ := ⟨h.h⟩
theorem RW.hF {d : Bool} {t : Nat} {b : Bool} (ht : headG ops l = some t) (hk : kn.contains t = false) (hv : lk σ.tmps t = some (.bool b)) (hb : b = false) (h : RW P Q specs ops d fs (t :: kn) acc B l σ) : RW P Q specs ops d fs kn acc B l σ := ⟨h.h⟩
theorem W.cT {c : Code} {t : Nat} {b : Bool} (hc : c = .cond (.tmp t) (cL c) (cR c)) (hv : lk σ.tmps t = some (.bool b)) (hb : b = true) (ht : W P Q (cL c) fs σ) : W P Q c fs σ := by
 subst hb
 exact W.condT hc hv ht
theorem W.cF {c : Code} {t : Nat} {b : Bool} (hc : c = .cond (.tmp t) (cL c) (cR c)) (hv : lk σ.tmps t = some (.bool b)) (hb : b = false) (ht : W P Q (cR c) fs σ) : W P Q c fs σ := by
 subst hb
 exact W.condF hc hv ht
theorem TEq.push {ts : NL AV} {t : Nat} {x : AV} (h : lk ts t = some x) : TEq ((t,x) :: ts) ts := fun u => by
 simp only [lk]
 split
 · rename_i e; rw [← e,h]
 · rfl
theorem N.teq {σ' : AS} (hn : σ'.n = σ.n) (ht : TEq σ'.tmps σ.tmps) (hh : σ'.heap = σ.heap) : ∀ {fs : List Fr} (_ : seqFr fs = true) (_ : N P Q fs σ'),N P Q fs σ
 | .seq y :: fs,_,h=>⟨WP.weak (σ' := σ') ⟨hn,fun t x hx=>⟨x,by rw [← ht t]; exact hx,fun _ _ h=>h⟩,fun id=>by rw [hh]⟩ h.h⟩
 | .blk id :: fs,hf,h=>⟨(N.teq (fs:=fs) hn ht hh hf ⟨h.h⟩).h⟩
theorem RW.gS {d : Bool} {n t : Nat} {ts : NL AV} {H : NL ABlk} {b : Bool} (hq : seqFr fs = true) (ht : headG ops l = some t) (hk : kn.contains t = false) (hv : lk ts t = some (.bool b))
   (hT : b = true → RW P Q specs ops d fs (t :: kn) acc B l ⟨n,(t, .bool true) :: ts,H⟩) (hF : b = false → RW P Q specs ops d fs (t :: kn) acc B l ⟨n,(t, .bool false) :: ts,H⟩) : RW P Q specs ops d fs kn acc B l ⟨n,ts,H⟩:=by
 have go : RW P Q specs ops d fs (t :: kn) acc B l ⟨n,(t, .bool b) :: ts,H⟩ → RW P Q specs ops d fs kn acc B l ⟨n,ts,H⟩:=fun h=>by
   obtain ⟨σ',fps,h1,h2,h3⟩:=h.h
   obtain ⟨us,h4,h5⟩:=runF_congr l (TEq.push hv) h1
   exact ⟨_,fps,h4,h2,fun hB hA=>N.teq (σ:=⟨σ'.n,us, σ'.heap⟩) (σ' := σ') rfl h5 rfl hq (h3 hB hA)⟩
 cases b with
 | true=>exact go (hT rfl)
 | false=>exact go (hF rfl)
end
structure RV (P : Program) (Q : AS → Prop) (specs : NL Spec) (ops : Array Oper) (draw : Bool) (fs : List Fr) (kn : List Nat) (acc : List (List Nat × List Nat)) (B : Prop) (l : List Oper) (σ : AS) : Prop where
 h : ∃ σ' fps,runF P (specOf specs) 0 ops l σ = some (σ',fps) ∧ (draw = true → drawOK ops (acc ++ fps.map fun f=>(f.rd,f.wr)) = true) ∧ (B → asAll fps → NV P Q fs σ')
section
variable {Q : AS → Prop} {specs : NL Spec} {ops : Array Oper} {fs : List Fr} {kn : List Nat} {acc : List (List Nat × List Nat)} {B : Prop} {l : List Oper} {σ : AS}
theorem V.reg {c : Code} {id : Nat} {d : Bool} (hm : P.follows .mixedOrders = true) (hsp : ∀ p ∈ specs,FnC P p.1 p.2.fn) (hc : c = .region id ops d) (h : RV P Q specs ops d fs [] [] True ops.toList σ) : V P Q c fs σ := by
 obtain ⟨σ',fps,h1,h2,h3⟩:=h.h
 cases d with
 | false =>
   obtain ⟨A,h4,h5⟩:=runL_runF _ h1
   exact V.region hm hsp hc h4 fun hA=>h3 trivial (h5 hA)
 | true=>exact V.regionD hm hsp hc h1 rfl (by simpa using h2 rfl) (h3 trivial)
theorem RV.done (h : B → NV P Q fs σ) : RV P Q specs ops false fs kn acc B [] σ := ⟨σ,[],rfl,(fun e => by cases e),fun hB _ => h hB⟩
theorem RV.doneD (hd : drawOK ops acc = true) (h : B → NV P Q fs σ) : RV P Q specs ops true fs kn acc B [] σ := ⟨σ,[],rfl,fun _ => by simpa using hd,fun hB _ => h hB⟩
theorem RV.donz (h : NV P Q fs σ) : RV P Q specs ops false fs kn acc B [] σ := RV.done fun _ => h
theorem RV.donzD (hd : drawOK ops acc = true) (h : NV P Q fs σ) : RV P Q specs ops true fs kn acc B [] σ := RV.doneD hd fun _ => h
theorem RV.run {d : Bool} {σ1 : AS} {f1 : List FP} {rest : List Oper} {acc' : List (List Nat × List Nat)} (hp : headStop ops kn l = false) (hr : runG P (specOf specs) 0 ops kn l σ = some (σ1,f1,rest)) (ha : acc ++ (f1.map fun f => (f.rd,f.wr)) = acc') (h : RV P Q specs ops d fs kn acc' (B ∧ asAll f1) rest σ1) : RV P Q specs ops d fs kn acc B l σ := by
 obtain ⟨σ',fps,h1,h2,h3⟩:=h.h
 refine ⟨σ',f1 ++ fps,runG_F l hr h1,fun e=>?_,fun hB hh=>h3 ⟨hB,(asAll_append _ _ hh).1⟩ (asAll_append _ _ hh).2⟩
 rw [List.map_append, ← List.append_assoc,ha]
 exact h2 e
theorem RV.runL {σ1 : AS} {f1 : List FP} {rest : List Oper} (hp : headStop ops kn l = false) (hr : runG P (specOf specs) 0 ops kn l σ = some (σ1,f1,rest)) (h : RV P Q specs ops false fs kn [] (B ∧ asAll f1) rest σ1) : RV P Q specs ops false fs kn acc B l σ := by
 obtain ⟨σ',fps,h1,h2,h3⟩:=h.h
 exact ⟨σ',f1 ++ fps,runG_F l hr h1,(fun e=>by cases e),fun hB hh=>h3 ⟨hB,(asAll_append _ _ hh).1⟩ (asAll_append _ _ hh).2⟩
theorem RV.gU {d : Bool} {t : Nat} {xs : List AV} (ht : headG ops l = some t) (hk : kn.contains t = false) (hv : lk σ.tmps t = some (.tup xs)) (h : RV P Q specs ops d fs (t :: kn) acc B l σ) : RV P Q specs ops d fs kn acc B l σ := ⟨h.h⟩
theorem RV.hT {d : Bool} {t : Nat} {b : Bool} (ht : headG ops l = some t) (hk : kn.contains t = false) (hv : lk σ.tmps t = some (.bool b)) (hb : b = true) (h : RV P Q specs ops d fs (t :: kn) acc B l σ) : RV P Q specs ops d fs kn acc B l σ := ⟨h.h⟩
theorem RV.hF {d : Bool} {t : Nat} {b : Bool} (ht : headG ops l = some t) (hk : kn.contains t = false) (hv : lk σ.tmps t = some (.bool b)) (hb : b = false) (h : RV P Q specs ops d fs (t :: kn) acc B l σ) : RV P Q specs ops d fs kn acc B l σ := ⟨h.h⟩
theorem V.cT {c : Code} {t : Nat} {b : Bool} (hc : c = .cond (.tmp t) (cL c) (cR c)) (hv : lk σ.tmps t = some (.bool b)) (hb : b = true) (ht : V P Q (cL c) fs σ) : V P Q c fs σ := by
 subst hb
 exact V.condT hc hv ht
theorem V.cF {c : Code} {t : Nat} {b : Bool} (hc : c = .cond (.tmp t) (cL c) (cR c)) (hv : lk σ.tmps t = some (.bool b)) (hb : b = false) (ht : V P Q (cR c) fs σ) : V P Q c fs σ := by
 subst hb
 exact V.condF hc hv ht
theorem NV.teq {σ' : AS} (hn : σ'.n = σ.n) (ht : TEq σ'.tmps σ.tmps) (hh : σ'.heap = σ.heap) : ∀ {fs : List Fr} (_ : seqFr fs = true) (_ : NV P Q fs σ'),NV P Q fs σ
 | .seq y :: fs,_,h=>⟨VP.weak (σ' := σ') ⟨hn,fun t x hx=>⟨x,by rw [← ht t]; exact hx,fun _ _ h=>h⟩,fun id=>by rw [hh]⟩ h.h⟩
 | .blk id :: fs,hf,h=>⟨(NV.teq (fs:=fs) hn ht hh hf ⟨h.h⟩).h⟩
theorem RV.gS {d : Bool} {n t : Nat} {ts : NL AV} {H : NL ABlk} {b : Bool} (hq : seqFr fs = true) (ht : headG ops l = some t) (hk : kn.contains t = false) (hv : lk ts t = some (.bool b))
   (hT : b = true → RV P Q specs ops d fs (t :: kn) acc B l ⟨n,(t, .bool true) :: ts,H⟩) (hF : b = false → RV P Q specs ops d fs (t :: kn) acc B l ⟨n,(t, .bool false) :: ts,H⟩) : RV P Q specs ops d fs kn acc B l ⟨n,ts,H⟩:=by
 have go : RV P Q specs ops d fs (t :: kn) acc B l ⟨n,(t, .bool b) :: ts,H⟩ → RV P Q specs ops d fs kn acc B l ⟨n,ts,H⟩:=fun h=>by
   obtain ⟨σ',fps,h1,h2,h3⟩:=h.h
   obtain ⟨us,h4,h5⟩:=runF_congr l (TEq.push hv) h1
   exact ⟨_,fps,h4,h2,fun hB hA=>NV.teq (σ:=⟨σ'.n,us, σ'.heap⟩) (σ' := σ') rfl h5 rfl hq (h3 hB hA)⟩
 cases b with
 | true=>exact go (hT rfl)
 | false=>exact go (hF rfl)
end
end
end Go.Abs
namespace Go.Abs
open Go
set_option linter.unusedVariables false
section
variable {P : Program} {Q : AS → Prop} {c : Code} {fs : List Fr} {σ : AS}
theorem Za {y : Code} (h : W P Q y fs σ) : N P Q (.seq y :: fs) σ := N.seq h
theorem Zb {id : Nat} (h : N P Q fs σ) : N P Q (.blk id :: fs) σ := N.blk h
theorem Zc (h : W P Q (cL c) (.seq (cR c) :: fs) σ) (hc : c = .seq (cL c) (cR c) := by exact rfl) : W P Q c fs σ := W.seq hc h
theorem Zd {id : Nat} (h : W P Q (cL c) (.blk id :: fs) σ) (hc : c = .block id (cL c) := by exact rfl) : W P Q c fs σ := W.block hc h
theorem Ze (h : N P Q fs σ) (hc : c = .skip := by exact rfl) : W P Q c fs σ := W.skip hc h
theorem Zf (h : Q σ) (hc : c = .ret := by exact rfl) : W P Q c fs σ := W.ret hc h
theorem Zg (h : Q σ) : N P Q [] σ := N.nil h
theorem Zh {b : AS → Prop} (h : b σ) : N P Q (.loop b :: fs) σ := N.loop h
theorem Zi {i : Nat} (h : X P Q i fs σ) (hc : c = .exit i := by exact rfl) : W P Q c fs σ := W.exit hc h
theorem Zj {i : Nat} {y : Code} (h : X P Q i fs σ) : X P Q i (.seq y :: fs) σ := X.seq h
theorem Zk {i : Nat} {b : AS → Prop} (h : X P Q i fs σ) : X P Q i (.loop b :: fs) σ := X.loop h
theorem Zl {i : Nat} (h : N P Q fs σ) : X P Q i (.blk i :: fs) σ := X.hit h
theorem Zm {i j : Nat} (h : X P Q i fs σ) (hne : i ≠ j := by decide) : X P Q i (.blk j :: fs) σ := X.pass hne h
theorem Zn {t : Nat} {b : Bool} (h : W P Q (cL c) fs σ) (hc : c = .cond (.tmp t) (cL c) (cR c) := by exact rfl) (hv : lk σ.tmps t = some (.bool b) := by exact rfl) (hb : b = true := by with_reducible rfl) : W P Q c fs σ := W.cT hc hv hb h
theorem Zo {t : Nat} {b : Bool} (h : W P Q (cR c) fs σ) (hc : c = .cond (.tmp t) (cL c) (cR c) := by exact rfl) (hv : lk σ.tmps t = some (.bool b) := by exact rfl) (hb : b = false := by with_reducible rfl) : W P Q c fs σ := W.cF hc hv hb h
theorem Zp {t : Nat} (h : W P Q (cL c) fs σ) (hc : c = .cond (.tmp t) (cL c) (cR c) := by exact rfl) (hv : lk σ.tmps t = some (.bool true) := by exact rfl) : W P Q c fs σ := W.condT hc hv h
theorem Zq {t : Nat} (h : W P Q (cR c) fs σ) (hc : c = .cond (.tmp t) (cL c) (cR c) := by exact rfl) (hv : lk σ.tmps t = some (.bool false) := by exact rfl) : W P Q c fs σ := W.condF hc hv h
theorem ZA {t : Nat} {b : Bool} (ht : b = true → W P Q (cL c) fs σ) (hf : b = false → W P Q (cR c) fs σ) (hc : c = .cond (.tmp t) (cL c) (cR c) := by exact rfl) (hv : lk σ.tmps t = some (.bool b) := by exact rfl) : W P Q c fs σ := W.cond hc hv ht hf
variable {specs : NL Spec} {ops : Array Oper} {kn : List Nat} {acc : List (List Nat × List Nat)} {B : Prop} {l : List Oper}
theorem ZB {id : Nat} {d : Bool} (hm : P.follows .mixedOrders = true) (hsp : ∀ p ∈ specs,FnC P p.1 p.2.fn) (h : RW P Q specs ops d fs [] [] True ops.toList σ) (hc : c = .region id ops d := by exact rfl) : W P Q c fs σ := W.reg hm hsp hc h
theorem ZC (h : N P Q fs σ) : RW P Q specs ops false fs kn acc B [] σ := RW.donz h
theorem ZD (h : N P Q fs σ) (hd : drawOK ops acc = true := by kernel_rfl) : RW P Q specs ops true fs kn acc B [] σ := RW.donzD hd h
theorem ZE {d : Bool} {t : Nat} {b : Bool} (h : RW P Q specs ops d fs (t :: kn) acc B l σ) (ht : headG ops l = some t := by exact rfl) (hk : kn.contains t = false := by exact rfl) (hv : lk σ.tmps t = some (.bool b) := by exact rfl) (hb : b = true := by with_reducible rfl) : RW P Q specs ops d fs kn acc B l σ := RW.hT ht hk hv hb h
theorem ZF {d : Bool} {t : Nat} {b : Bool} (h : RW P Q specs ops d fs (t :: kn) acc B l σ) (ht : headG ops l = some t := by exact rfl) (hk : kn.contains t = false := by exact rfl) (hv : lk σ.tmps t = some (.bool b) := by exact rfl) (hb : b = false := by with_reducible rfl) : RW P Q specs ops d fs kn acc B l σ := RW.hF ht hk hv hb h
theorem ZG {d : Bool} {t : Nat} {xs : List AV} (h : RW P Q specs ops d fs (t :: kn) acc B l σ) (ht : headG ops l = some t := by exact rfl) (hk : kn.contains t = false := by exact rfl) (hv : lk σ.tmps t = some (.tup xs) := by exact rfl) : RW P Q specs ops d fs kn acc B l σ := RW.gU ht hk hv h
theorem ZH {d : Bool} {n t : Nat} {ts : NL AV} {H : NL ABlk} {b : Bool} (hT : b = true → RW P Q specs ops d fs (t :: kn) acc B l ⟨n,(t, .bool true) :: ts,H⟩) (hF : b = false → RW P Q specs ops d fs (t :: kn) acc B l ⟨n,(t, .bool false) :: ts,H⟩)
   (hq : seqFr fs = true:=by exact rfl) (ht : headG ops l = some t:=by exact rfl) (hk : kn.contains t = false:=by exact rfl) (hv : lk ts t = some (.bool b):=by exact rfl) : RW P Q specs ops d fs kn acc B l ⟨n,ts,H⟩:=RW.gS hq ht hk hv hT hF
theorem ZK {id : Nat} {σ' : AS} {A : Prop} (hm : P.follows .mixedOrders = true) (hsp : ∀ p ∈ specs,FnC P p.1 p.2.fn) (hc : c = .region id ops false) (hr : runL P (specOf specs) 0 ops ops.toList σ = some (σ',A)) (h : A → N P Q fs σ') : W P Q c fs σ := W.region hm hsp hc hr h
theorem ZL {id : Nat} {σ' : AS} {fps : List FP} {rw' : List (List Nat × List Nat)} (hm : P.follows .mixedOrders = true) (hsp : ∀ p ∈ specs,FnC P p.1 p.2.fn) (hc : c = .region id ops true) (hr : runF P (specOf specs) 0 ops ops.toList σ = some (σ',fps)) (h : asAll fps → N P Q fs σ') (hrw : (fps.map fun f => (f.rd,f.wr)) = rw' := by conv => lhs; simp) (ho : drawOK ops rw' = true := by kernel_rfl) : W P Q c fs σ := W.regionD hm hsp hc hr hrw ho h
inductive RunAcc : Bool → List (List Nat × List Nat) → List FP → List (List Nat × List Nat) → Prop
 | lin {acc : List (List Nat × List Nat)} {f1 : List FP} : RunAcc false acc f1 []
 | drw {d : Bool} {acc : List (List Nat × List Nat)} {f1 : List FP} {acc' : List (List Nat × List Nat)} (h : acc ++ (f1.map fun f=>(f.rd,f.wr)) = acc') : RunAcc d acc f1 acc'
theorem ZJ {d : Bool} {σ1 : AS} {f1 : List FP} {rest : List Oper} {acc' : List (List Nat × List Nat)} (hr : runG P (specOf specs) 0 ops kn l σ = some (σ1,f1,rest)) (h : RW P Q specs ops d fs kn acc' (B ∧ asAll f1) rest σ1) (hp : headStop ops kn l = false := by exact rfl)
   (ha : RunAcc d acc f1 acc':=by first | exact RunAcc.lin | exact RunAcc.drw (by simp; rfl)) : RW P Q specs ops d fs kn acc B l σ:=by
 cases ha with
 | lin=>exact RW.runL hp hr h
 | drw ha=>exact RW.run hp hr ha h
theorem ZS {R G : Prop} (g : G) (h : G → R := by (intro g; (first | refine Za ?_ | refine Zb ?_ | refine Zc ?_ | refine Zd ?_ | refine Ze ?_ | refine Zf ?_ | refine Zg ?_ | refine Zh ?_ | refine Zi ?_ | refine Zj ?_ | refine Zk ?_ | refine Zl ?_ | refine Zm ?_ | refine Zp ?_ | refine Zq ?_); (repeat (first | refine Za ?_ | refine Zb ?_ | refine Zc ?_ | refine Zd ?_ | refine Ze ?_ | refine Zf ?_ | refine Zg ?_ | refine Zh ?_ | refine Zi ?_ | refine Zj ?_ | refine Zk ?_ | refine Zl ?_ | refine Zm ?_ | refine Zp ?_ | refine Zq ?_)); exact g)) : R := h g
theorem ZV {R G : Prop} (g : G) (h : G → R := by (intro g; (first | refine Za ?_ | refine Zb ?_ | refine Zc ?_ | refine Zd ?_ | refine Ze ?_ | refine Zf ?_ | refine Zg ?_ | refine Zh ?_ | refine Zi ?_ | refine Zj ?_ | refine Zk ?_ | refine Zl ?_ | refine Zm ?_ | refine Zn ?_ | refine Zo ?_ | refine ZC ?_ | refine ZD ?_ | refine ZE ?_ | refine ZF ?_ | refine ZG ?_); (repeat (first | refine Za ?_ | refine Zb ?_ | refine Zc ?_ | refine Zd ?_ | refine Ze ?_ | refine Zf ?_ | refine Zg ?_ | refine Zh ?_ | refine Zi ?_ | refine Zj ?_ | refine Zk ?_ | refine Zl ?_ | refine Zm ?_ | refine Zn ?_ | refine Zo ?_ | refine ZC ?_ | refine ZD ?_ | refine ZE ?_ | refine ZF ?_ | refine ZG ?_)); exact g)) : R := h g
theorem YS {R G : Prop} (g : G) (h : G → R := by (intro g; (first | refine NV.seq ?_ | refine NV.blk ?_ | refine V.seq rfl ?_ | refine V.block rfl ?_ | refine V.skip rfl ?_ | refine V.ret rfl ?_ | refine NV.nil ?_ | refine NV.loop ?_ | refine V.exit rfl ?_ | refine XV.seq ?_ | refine XV.loop ?_ | refine XV.hit ?_ | refine XV.pass (by decide) ?_ | refine V.condT rfl (by rfl) ?_ | refine V.condF rfl (by rfl) ?_); (repeat (first | refine NV.seq ?_ | refine NV.blk ?_ | refine V.seq rfl ?_ | refine V.block rfl ?_ | refine V.skip rfl ?_ | refine V.ret rfl ?_ | refine NV.nil ?_ | refine NV.loop ?_ | refine V.exit rfl ?_ | refine XV.seq ?_ | refine XV.loop ?_ | refine XV.hit ?_ | refine XV.pass (by decide) ?_ | refine V.condT rfl (by rfl) ?_ | refine V.condF rfl (by rfl) ?_)); exact g)) : R := h g
theorem YU {R G : Prop} (g : G) (h : G → R := by (intro g; (first | refine NV.seq ?_ | refine NV.blk ?_ | refine V.seq rfl ?_ | refine V.block rfl ?_ | refine V.skip rfl ?_ | refine NV.nil ?_ | refine NV.loop ?_ | refine V.exit rfl ?_ | refine XV.seq ?_ | refine XV.loop ?_ | refine XV.hit ?_ | refine XV.pass (by decide) ?_ | refine V.condT rfl (by rfl) ?_ | refine V.condF rfl (by rfl) ?_); (repeat (first | refine NV.seq ?_ | refine NV.blk ?_ | refine V.seq rfl ?_ | refine V.block rfl ?_ | refine V.skip rfl ?_ | refine NV.nil ?_ | refine NV.loop ?_ | refine V.exit rfl ?_ | refine XV.seq ?_ | refine XV.loop ?_ | refine XV.hit ?_ | refine XV.pass (by decide) ?_ | refine V.condT rfl (by rfl) ?_ | refine V.condF rfl (by rfl) ?_)); exact g)) : R := h g
theorem YL {id : Nat} {σ' : AS} {fps : List FP} {rw' : List (List Nat × List Nat)} (hm : P.follows .mixedOrders = true) (hsp : ∀ p ∈ specs,FnC P p.1 p.2.fn) (hc : c = .region id ops true) (hr : runF P (specOf specs) 0 ops ops.toList σ = some (σ',fps)) (h : asAll fps → NV P Q fs σ') (hrw : (fps.map fun f => (f.rd,f.wr)) = rw' := by conv => lhs; simp) (ho : drawOK ops rw' = true := by kernel_rfl) : V P Q c fs σ := V.regionD hm hsp hc hr hrw ho h
theorem Ym {fn : Func} {k : Nat} {r : AV} {B : List ABlk} (exp gs : List Nat) (h : retM2 P fn k false exp gs σ = some (r,B.map some) := by simp [retM2,movedOK,oldOK,frqT,frqV,frqVs,frqL,frq1,expG,expB3,renB,AV.ren,renL,List.range,List.range.loop,resVs,resV,pack,List.zipWith,List.idxOf?,List.findIdx?,List.findIdx?.go]) : RetM P fn k r B σ := retM2_ok false exp gs h
theorem YP {fn : Func} {k g n t elem size : Nat} {r : AV} {rows : List (List AV)} {B : List ABlk} {ts : NL AV} {H : NL ABlk} (id : Nat) (h : V P (RetM P fn k r (rowB elem size g rows :: B)) c fs ⟨n,(t, .sl id 0 0 0) :: ts,(id, { gen := 0,kind := 2,elem,size,inl := true,rows := [] }) :: H⟩) (ht : lk ts t = some .nils := by exact rfl) (hid : lk H id = none := by exact rfl) (h0 : 0 < size := by decide) : V P (RetM P fn k r (rowB elem size g rows :: B)) c fs ⟨n,ts,H⟩ := V.phantom id elem size ht hid h0 h
theorem YQ {fn : Func} {k g n t elem size : Nat} {r : AV} {rows : List (List AV)} {b : ABlk} {B : List ABlk} {ts : NL AV} {H : NL ABlk} (id : Nat) (h : V P (RetM P fn k r (b :: rowB elem size g rows :: B)) c fs ⟨n,(t, .sl id 0 0 0) :: ts,(id, { gen := 0,kind := 2,elem,size,inl := true,rows := [] }) :: H⟩) (ht : lk ts t = some .nils := by exact rfl) (hid : lk H id = none := by exact rfl) (h0 : 0 < size := by decide) : V P (RetM P fn k r (b :: rowB elem size g rows :: B)) c fs ⟨n,ts,H⟩ := V.phantom id elem size ht hid h0 h
theorem Yr {fn : Func} {r : AV} {xs : List AV} {H : NL ABlk} {rd wr : List Nat} {A : Prop} {rs : List ResultVar} (h0 : fn.results.toList = rs := by exact rfl) (h1 : resVs P σ rs = some xs := by conv => lhs; simp) (h2 : frzTR (pack xs) σ.heap = some ⟨r,H,rd,wr,A⟩ := by conv => lhs; simp) (h3 : inlT r = true := by first | rfl | simp [inlT,inlV]) : Ret P fn r [] σ := Ret.dataR h0 h1 h2 h3
theorem Yd {fn : Func} {r r0 : AV} {xs : List AV} {H : NL ABlk} {rd wr : List Nat} {A : Prop} {rs : List ResultVar} (h4 : r0 = r) (h0 : fn.results.toList = rs := by exact rfl) (h1 : resVs P σ rs = some xs := by conv => lhs; simp) (h2 : frzTR (pack xs) σ.heap = some ⟨r0,H,rd,wr,A⟩ := by conv => lhs; simp) (h3 : inlT r0 = true := by first | rfl | simp [inlT,inlV]) : Ret P fn r [] σ := Ret.dataE h0 h1 h2 h3 h4
theorem Ye {fn : Func} {ty : List TypeId} {r r0 : AV} {xs : List AV} {H : NL ABlk} {rd wr : List Nat} {A : Prop} {rs : List ResultVar} (h4 : nrmR P ty r0 = r) (h0 : fn.results.toList = rs := by exact rfl) (h1 : resVs P σ rs = some xs := by conv => lhs; simp) (h2 : frzTR (pack xs) σ.heap = some ⟨r0,H,rd,wr,A⟩ := by conv => lhs; simp) (h3 : inlT r0 = true := by first | rfl | simp [inlT,inlV]) : RetNf P fn ty r [] σ := RetNf.dataE h0 h1 h2 h3 h4
end
section
variable {P : Program}
theorem RepL_of_cells {E : Env} {us : List Value} : ∀ {xs : List AV},us.length = xs.length → (∀ (j : Nat) (x : AV) (u : Value),xs[j]? = some x → us[j]? = some u → Rep E x u) → ∀ vs : Array Value,vs.toList = us → RepL E xs vs.toList := by
 induction us with
 | nil =>
   intro xs hl _ vs hv
   cases xs with
   | nil=>rw [hv]; simp only [RepL]
   | cons x r=>simp at hl
 | cons u us ih =>
   intro xs hl h vs hv
   cases xs with
   | nil=>simp at hl
   | cons x r =>
     rw [hv]
     simp only [RepL]
     refine ⟨u,us,rfl,h 0 x u rfl rfl, ?_⟩
     have:=ih (xs:=r) (by simpa using hl) (fun j x u h1 h2=>h (j + 1) x u (by simpa using h1) (by simpa using h2)) us.toArray (by simp)
     simpa using this
theorem rowG_env {n : Nat} {ts : NL AV} {H H' : NL ABlk} (id r : Nat) {blk : ABlk} {row row' : List AV} (hb : lk H id = some blk) (hk : blk.kind = 2) (hi : blk.inl = false) (hrow : blk.rows[r]? = some row)
   (hf : ∀ a E,SR ⟨n,ts,H⟩ a E → ∀ vs : Array Value,Rep E (.agg row) (.agg vs) → ∃ E1,E1.w = E.w ∧ Step E E1 ∧ SR ⟨n,ts,H'⟩ a E1 ∧ Rep E1 (.agg row') (.agg vs)) (hb' : lk H' id = some blk) :
   ∀ a E,SR ⟨n,ts,H⟩ a E → ∃ E1,E1.w = E.w ∧ Step E E1 ∧ SR ⟨n,ts,st H' id { blk with rows:=blk.rows.set r row' }⟩ a E1:=fun a E hs=>by
 have hbE : E.H id = some blk:=by rw [hs.heap]; exact hb
 obtain ⟨C,hC,hcs,hsz,hlen,hrl,hcell⟩:=hs.hr.cells hbE (.inr hk)
 have hr : r < blk.rows.length:=(List.getElem?_eq_some_iff.1 hrow).1
 have hcp : 0 < E.cs id:=by
   have : 0 < blk.rows.length * blk.size:=Nat.mul_pos (by omega) hsz
   omega
 have hrl0:=hrl r row hrow
 have hex : ∀ j, ∃ u : Value,j < row.length → C[r * blk.size + j]? = some u ∧ u.oneCell' = true ∧ ∀ x,row[j]? = some x → Rep E x u:=fun j=>by
   by_cases hj : j < row.length
   · obtain ⟨u,h1,h2,h3⟩:=hcell r row j _ hrow (List.getElem?_eq_getElem hj)
     refine ⟨u,fun _=>⟨h1,h2,fun x hx=>?_⟩⟩
     rw [List.getElem?_eq_getElem hj] at hx
     cases hx
     exact h3.rep
   · exact ⟨undef,fun h=>absurd h hj⟩
 obtain ⟨f,hf'⟩:=Classical.axiomOfChoice hex
 have hrep : Rep E (.agg row) (.agg ((List.range row.length).map f).toArray):=by
   simp only [Rep]
   refine ⟨_,rfl,RepL_of_cells (us:=(List.range row.length).map f) (by simp) (fun j x u h1 h2=>?_) _ rfl⟩
   have hj:=(List.getElem?_eq_some_iff.1 h1).1
   simp only [List.getElem?_map,List.getElem?_range hj,Option.map_some,Option.some.injEq] at h2
   subst h2
   exact (hf' j hj).2.2 x h1
 obtain ⟨E1,e1,e4,e3,e5⟩:=hf a E hs _ hrep
 simp only [Rep] at e5
 obtain ⟨vs,hvs,e5⟩:=e5
 have evs : vs.toList = (List.range row.length).map f:=by
   cases hvs
   simp
 have hl' : row'.length = row.length:=by
   have:=e5.length
   rw [evs] at this
   simpa using this.symm
 have hb1 : E1.H id = some blk:=by rw [e3.heap]; exact hb'
 have hp1 : E1.φ id = E.φ id ∧ E1.cs id = E.cs id:=by
   obtain ⟨b1,q1,q2,q3⟩:=e4.ref id blk hbE
   rw [hb1] at q1
   cases q1
   obtain ⟨_,_,_,k4,k5⟩:=q3 rfl (by omega)
   exact ⟨k4,k5⟩
 have hset : ∀ (k : Nat) (row2 : List AV),(blk.rows.set r row')[k]? = some row2 → (k = r ∧ row2 = row') ∨ (k ≠ r ∧ blk.rows[k]? = some row2):=fun k row2 h=>by
   by_cases e : k = r
   · subst e
     rw [List.getElem?_set_self (by omega)] at h
     exact .inl ⟨rfl,by cases h; rfl⟩
   · rw [List.getElem?_set_ne (fun q=>e q.symm)] at h
     exact .inr ⟨e,h⟩
 obtain ⟨C1,hC1,hcs1,hsz1,hlen1,hrl1,hcell1⟩:=e3.hr.cells hb1 (.inr hk)
 have hC1' : E1.w.heap[E1.φ id]? = some (.cells C1 blk.elem (0,0)):=hC1 (by omega)
 have eC : C1 = C:=by
   have h1:=hC hcp
   rw [hp1.1,e1,h1] at hC1'
   cases hC1'
   rfl
 subst eC
 obtain ⟨q1,q2⟩:=e3.hr.write (blk':={ blk with rows:=blk.rows.set r row' }) (C:=C1) (w':=E1.w) hb1 hk (by omega) ⟨rfl,rfl,rfl,rfl⟩ (fun _ _=>rfl) hC1' hcs1 hk (Nat.le_refl _) rfl rfl
   (by
     show (blk.rows.set r row').length * blk.size ≤ C1.size
     rw [List.length_set]; exact hlen1)
   (fun k row2 h=>by
     rcases hset k row2 h with ⟨_,rfl⟩ | ⟨_,h⟩
     · rw [hl']; exact hrl0
     · exact hrl1 k row2 h)
   (fun k row2 j y h hy=>by
     rcases hset k row2 h with ⟨rfl,rfl⟩ | ⟨_,h⟩
     · have hj : j < row.length:=by have:=(List.getElem?_eq_some_iff.1 hy).1; omega
       obtain ⟨g1,g2,g3⟩:=hf' j hj
       refine ⟨f j,g1,g2, ?_⟩
       unfold CellR
       rw [hi]
       obtain ⟨v,hv,hx⟩:=e5.get hy
       rw [evs] at hv
       simp only [List.getElem?_map,List.getElem?_range hj,Option.map_some,Option.some.injEq] at hv
       subst hv
       exact hx
     · exact hcell1 k row2 j y h hy)
 refine ⟨⟨E1.w,upd E1.H id (some { blk with rows:=blk.rows.set r row' }),E1.φ,E1.cs,E1.F⟩,e1,e4.trans q2, ?_,q1,hs.defers,hs.size,fun t' x hx=>?_⟩
 · show upd E1.H id _ = lk (st H' id _)
   rw [lk_st_upd, ← e3.heap]
 · obtain ⟨v,hv,hx⟩:=e3.tmps t' x hx
   exact ⟨v,hv,Rep.mono q2 _ _ hx⟩
theorem rowC_env {n : Nat} {ts : NL AV} {H H' : NL ABlk} (id r j : Nat) {blk : ABlk} {row : List AV} {x x' : AV} {rd wr : List Nat} {A : Prop} (hb : lk H id = some blk) (hk : blk.kind = 2) (hi : blk.inl = false) (hrow : blk.rows[r]? = some row) (hj : row[j]? = some x)
   (hf : (frqT true x).run H = some ⟨x',H',rd,wr,A⟩) (hb' : lk H' id = some blk) :
   ∀ a E,SR ⟨n,ts,H⟩ a E → ∃ E1,E1.w = E.w ∧ Step E E1 ∧ SR ⟨n,ts,st H' id { blk with rows:=blk.rows.set r (row.set j x') }⟩ a E1 :=
 rowG_env id r hb hk hi hrow (fun a E hs vs hrep=>by
   simp only [Rep] at hrep
   obtain ⟨cs,hcs,hl⟩:=hrep
   cases hcs
   obtain ⟨v,hv,hx⟩:=hl.get hj
   obtain ⟨E1,e1,e2,e3,e4,e5⟩:=frqT_run hs.heap hs.hr hx hf
   refine ⟨E1,e1,e4,⟨e2,e3,hs.defers,hs.size,fun t' x hx=>?_⟩, ?_⟩
   · obtain ⟨v,hv,hx⟩:=hs.tmps t' x hx
     exact ⟨v,hv,Rep.mono e4 _ _ hx⟩
   · simp only [Rep]
     refine ⟨_,rfl,RepL_of_cells (us:=vs.toList) (by rw [List.length_set]; exact hl.length) (fun i y u g1 g2=>?_) _ rfl⟩
     by_cases e : i = j
     · subst e
       rw [List.getElem?_set_self (List.getElem?_eq_some_iff.1 hj).1] at g1
       cases g1
       rw [g2] at hv
       cases hv
       exact e5
     · rw [List.getElem?_set_ne (fun q=>e q.symm)] at g1
       obtain ⟨v2,hv2,hx2⟩:=hl.get g1
       rw [g2] at hv2
       cases hv2
       exact Rep.mono e4 _ _ hx2) hb'
theorem W.frzC {Q : AS → Prop} {c : Code} {fs : List Fr} {n : Nat} {ts : NL AV} {H H' : NL ABlk} (id r j : Nat) {blk : ABlk} {row : List AV} {x x' : AV} {rd wr : List Nat} {A : Prop} (hb : lk H id = some blk) (hk : blk.kind = 2) (hi : blk.inl = false) (hrow : blk.rows[r]? = some row) (hj : row[j]? = some x)
   (hf : (frqT true x).run H = some ⟨x',H',rd,wr,A⟩) (hb' : lk H' id = some blk) (h : W P Q c fs ⟨n,ts,st H' id { blk with rows:=blk.rows.set r (row.set j x') }⟩) : W P Q c fs ⟨n,ts,H⟩:=W.env (rowC_env id r j hb hk hi hrow hj hf hb') h
theorem W.shrink {c : Code} {Q : AS → Prop} {fs : List Fr} {n t id g k : Nat} {ts : NL AV} {H : NL ABlk} {blk : ABlk} (ht : lk ts t = some (.sl id g 0 k)) (hb : lk H id = some blk) (hg : blk.gen = g) (hk : blk.kind = 2)
   (h : W P Q c fs ⟨n,(t, .sl id (g + 1) 0 k) :: ts,st H id { blk with gen:=g + 1,rows:=blk.rows.take k }⟩) : W P Q c fs ⟨n,ts,H⟩:=by
 refine W.env (fun a E hs=>?_) h
 have hbE : E.H id = some blk:=by rw [hs.heap]; exact hb
 obtain ⟨q1,q2⟩:=hs.hr.shrink hbE hk k
 refine ⟨⟨E.w,upd E.H id (some { blk with gen:=blk.gen + 1,rows:=blk.rows.take k }),E.φ,E.cs,E.F⟩,rfl,q2, ?_,q1,hs.defers,hs.size,fun t' x hx=>?_⟩
 · subst hg
   show upd E.H id _ = lk (st H id _)
   rw [lk_st_upd, ← hs.heap]
 · simp only [lk] at hx
   split at hx
   · rename_i e
     subst e
     simp only [Option.some.injEq] at hx
     subst hx
     obtain ⟨v,hv,hx⟩:=hs.tmps t _ ht
     refine ⟨v,hv, ?_⟩
     simp only [Rep] at hx
     obtain ⟨b,a,len',cap,k1,k2,rfl,k3⟩:=hx
     rw [hbE] at k1; cases k1
     obtain ⟨j1,j2,j3,j4,j5⟩:=k3 hg
     simp only [Rep,upd_same]
     exact ⟨_,a,len',cap,rfl,by simp [hg],rfl,fun _=>⟨.inr hk,j2,j3,j4,j5⟩⟩
   · obtain ⟨v,hv,hx⟩:=hs.tmps t' x hx
     exact ⟨v,hv,Rep.mono q2 _ _ hx⟩
def cS : Code → Code
 | .scope c=>c
 | _ => .skip
theorem post_goto {Q : AS → Prop} {l : Nat} : ∀ (fs : List Fr) {σ : AS},post P Q fs (.goto l) σ → False
 | [],_,h=>by rcases h.1 with h | h <;> cases h
 | .seq _ :: fs,_,h=>post_goto fs h
 | .blk _ :: fs,_,h=>post_goto fs h
 | .loop _ :: fs,_,h=>post_goto fs h
theorem W.scope {Q : AS → Prop} {c : Code} {fs : List Fr} {σ : AS} (hc : c = .scope (cS c)) (h : W P Q (cS c) fs σ) : W P Q c fs σ := by
 refine ⟨fun hs=>?_⟩
 obtain ⟨e, τ,h1,h2⟩:=h.h hs
 refine ⟨e, τ,h1,fun a E hs=>?_⟩
 rw [hc]
 refine wp_scope_straight (wp_mono (h2 a E hs) fun e' a' w' hp=>?_)
 obtain ⟨σ',E',rfl,g1,g2,rfl,rfl⟩:=hp
 cases e' with
 | goto l=>exact (post_goto fs h1).elim
 | _=>exact ⟨_,E',rfl,g1,g2,rfl,rfl⟩
theorem W.label {Q : AS → Prop} {c : Code} {fs : List Fr} {σ : AS} {l : Nat} (hc : c = .label l) (h : N P Q fs σ) : W P Q c fs σ := by
 refine ⟨fun hs=>⟨.normal, σ,h.h,fun a E hs=>?_⟩⟩
 rw [hc]
 exact wp_label ⟨σ,E,rfl,hs,Step.refl E,rfl,rfl⟩
theorem W.cutS {Q : AS → Prop} {a y : Code} {fs : List Fr} {σ : AS} (hy : y = .seq (cL y) (cR y)) (M : AS → Prop) (h1 : W P Q a (.seq (cL y) :: .loop M :: fs) σ) (h2 : ∀ σ',M σ' → W P Q (cR y) fs σ') : W P Q a (.seq y :: fs) σ := by
 refine ⟨h1.h.mono fun e σ h=>?_⟩
 cases e with
 | normal =>
   have h : WP P (cL y) (post P Q (.loop M :: fs)) σ:=h
   show WP P y (post P Q fs) σ
   rw [hy]
   refine WP.seq (h.mono fun e σ h=>?_)
   cases e with
   | normal=>exact (h2 σ h).h
   | _=>exact h
 | _=>exact h
end
end Go.Abs
namespace Go.Abs
open Go Go.Sort
set_option linter.unusedVariables false
section
variable {P : Program}
end
end Go.Abs
namespace Go.Abs
section
theorem W.cutB {P : Program} {Q : AS → Prop} {a y : Code} {fs : List Fr} {σ : AS} {i : Nat} (M : AS → Prop) (h1 : W P Q a (.blk i :: .loop M :: fs) σ) (h2 : ∀ σ',M σ' → W P Q y fs σ') : W P Q a (.blk i :: .seq y :: fs) σ := by
 refine ⟨h1.h.mono fun e σ h=>?_⟩
 cases e with
 | normal=>exact (h2 σ h).h
 | exit j =>
   have h : (if j = i then post P Q (.loop M :: fs) .normal σ else post P Q (.loop M :: fs) (.exit j) σ):=h
   show (if j = i then post P Q (.seq y :: fs) .normal σ else post P Q (.seq y :: fs) (.exit j) σ)
   split at h
   · rw [if_pos ‹_›]; exact (h2 σ h).h
   · rw [if_neg ‹_›]; exact h
 | _=>exact h
end
end Go.Abs
namespace Go.Abs
open Go
set_option linter.unusedVariables false
set_option linter.unusedSimpArgs false
section
theorem HR.move {E : Env} (hr : HR E) {id new : Nat} {blk : ABlk} (hb : E.H id = some blk) (hk : blk.kind = 2) (hn : E.H new = none) :
   HR ⟨E.w,upd (upd E.H id (some { gen:=blk.gen + 1 })) new (some { blk with gen:=0 }),upd E.φ new (E.φ id),upd E.cs new (E.cs id),E.F⟩ ∧
   Step E ⟨E.w,upd (upd E.H id (some { gen:=blk.gen + 1 })) new (some { blk with gen:=0 }),upd E.φ new (E.φ id),upd E.cs new (E.cs id),E.F⟩:=by
 have hne : new ≠ id:=fun e=>by subst e; rw [hn] at hb; cases hb
 have hid : upd (upd E.H id (some { gen:=blk.gen + 1 })) new (some { blk with gen:=0 }) id = some { gen:=blk.gen + 1 }:=by rw [upd_other _ _ _ hne,upd_same]
 have hot : ∀ k,k ≠ id → k ≠ new → upd (upd E.H id (some { gen:=blk.gen + 1 })) new (some { blk with gen:=0 }) k = E.H k:=fun k h1 h2=>by
   rw [upd_other _ _ _ (Ne.symm h2),upd_other _ _ _ (Ne.symm h1)]
 have hst : Step E ⟨E.w,upd (upd E.H id (some { gen:=blk.gen + 1 })) new (some { blk with gen:=0 }),upd E.φ new (E.φ id),upd E.cs new (E.cs id),E.F⟩:=by
   refine ⟨Nat.le_refl _,fun b _ _=>rfl,rfl,fun k b hbk=>?_,fun k b' hbk hkk hck=>?_,Kept.refl _⟩
   · have e1 : k ≠ new:=fun e=>by subst e; rw [hn] at hbk; cases hbk
     by_cases e : k = id
     · subst e
       rw [hb] at hbk; cases hbk
       exact ⟨_,hid,Nat.le_succ _,fun h=>absurd h (by simp)⟩
     · exact ⟨b,by simp only; rw [hot k e e1]; exact hbk,Nat.le_refl _,fun _ _=>⟨.inl rfl,rfl,rfl,upd_other _ _ _ (Ne.symm e1),upd_other _ _ _ (Ne.symm e1)⟩⟩
   · left
     by_cases e1 : k = new
     · subst e1
       simp only [upd_same] at hbk hck ⊢
       exact ⟨id,blk,hb,by omega,hck,rfl, .inr ⟨_,hid,Nat.lt_succ_self _⟩⟩
     · by_cases e : k = id
       · subst e
         simp only at hbk
         rw [hid] at hbk
         simp only [Option.some.injEq] at hbk
         subst hbk
         simp at hkk
       · simp only at hbk hck ⊢
         rw [hot k e e1] at hbk
         rw [upd_other _ _ _ (Ne.symm e1)] at hck
         exact ⟨k,b',hbk,hkk,hck,upd_other _ _ _ (Ne.symm e1), .inl rfl⟩
 refine ⟨⟨fun k b hbk=>?_,fun i j bi bj hi hj ki kj ci cj hij=>?_,fun k b hbk hkk hck=>?_,hr.fb⟩,hst⟩
 · by_cases e1 : k = new
   · subst e1
     simp only [upd_same,Option.some.injEq] at hbk
     subst hbk
     obtain ⟨C,a1,a2,a3,a4,a5,a6⟩:=hr.cells hb (.inr hk)
     unfold BlkOK
     simp only [hk,upd_same]
     exact ⟨C,a1,a2,a3,a4,a5,fun r row j x h1 h2=>by
       obtain ⟨u,b1,b2,b3⟩:=a6 r row j x h1 h2
       exact ⟨u,b1,b2,by simpa only [hk] using b3.mono hst⟩⟩
   · by_cases e : k = id
     · subst e
       simp only at hbk
       rw [hid] at hbk
       simp only [Option.some.injEq] at hbk
       subst hbk
       unfold BlkOK
       trivial
     · simp only at hbk
       rw [hot k e e1] at hbk
       exact BlkOK.mono hst (upd_other _ _ _ (Ne.symm e1)) (upd_other _ _ _ (Ne.symm e1)) (fun _ _=>rfl) (hr.blk k b hbk)
 · simp only at hi hj ci cj ⊢
   have key : ∀ k b,upd (upd E.H id (some { gen:=blk.gen + 1 })) new (some { blk with gen:=0 }) k = some b → b.kind ≠ 0 → 0 < upd E.cs new (E.cs id) k → ∃ k0 b0,E.H k0 = some b0 ∧ b0.kind ≠ 0 ∧ 0 < E.cs k0 ∧ upd E.φ new (E.φ id) k = E.φ k0 ∧ ((k = new ∧ k0 = id) ∨ (k ≠ new ∧ k ≠ id ∧ k0 = k)):=fun k b h1 h2 h3=>by
     by_cases e1 : k = new
     · subst e1
       rw [upd_same] at h3 ⊢
       exact ⟨id,blk,hb,by omega,h3,rfl, .inl ⟨rfl,rfl⟩⟩
     · have e : k ≠ id:=fun e=>by
         subst e
         rw [hid] at h1
         simp only [Option.some.injEq] at h1
         subst h1
         exact h2 rfl
       rw [hot k e e1] at h1
       rw [upd_other _ _ _ (Ne.symm e1)] at h3 ⊢
       exact ⟨k,b,h1,h2,h3,rfl, .inr ⟨e1,e,rfl⟩⟩
   obtain ⟨i0,b0,p1,p2,p3,p4,p5⟩:=key i bi hi ki ci
   obtain ⟨j0,b1,q1,q2,q3,q4,q5⟩:=key j bj hj kj cj
   rw [p4,q4]
   refine hr.inj i0 j0 b0 b1 p1 q1 p2 q2 p3 q3 ?_
   rcases p5 with ⟨rfl,rfl⟩ | ⟨p5,p6,rfl⟩ <;> rcases q5 with ⟨rfl,rfl⟩ | ⟨q5,q6,rfl⟩
   · exact absurd rfl hij
   · exact Ne.symm q6
   · exact p6
   · exact hij
 · by_cases e1 : k = new
   · subst e1
     simp only [upd_same] at hck ⊢
     exact hr.nf id blk hb (by omega) hck
   · simp only at hbk hck ⊢
     have e : k ≠ id:=fun e=>by
       subst e
       rw [hid] at hbk
       simp only [Option.some.injEq] at hbk
       subst hbk
       exact hkk rfl
     rw [hot k e e1] at hbk
     rw [upd_other _ _ _ (Ne.symm e1)] at hck ⊢
     exact hr.nf k b hbk hkk hck
theorem mv_env {n t new : Nat} {ts : NL AV} {H : NL ABlk} {id g off len : Nat} {blk : ABlk} (ht : lk ts t = some (.sl id g off len)) (hb : lk H id = some blk) (hg : blk.gen = g) (hk : blk.kind = 2) (hn : lk H new = none) :
   ∀ a E,SR ⟨n,ts,H⟩ a E → ∃ E1,E1.w = E.w ∧ Step E E1 ∧ SR ⟨n,(t, .sl new 0 off len) :: ts,(new, { blk with gen:=0 }) :: (id, { gen:=g + 1 }) :: H⟩ a E1:=fun a E hs=>by
 subst hg
 have hb' : E.H id = some blk:=by rw [hs.heap]; exact hb
 have hn' : E.H new = none:=by rw [hs.heap]; exact hn
 obtain ⟨h1,h2⟩:=hs.hr.move hb' hk hn'
 refine ⟨⟨E.w,upd (upd E.H id (some { gen:=blk.gen + 1 })) new (some { blk with gen:=0 }),upd E.φ new (E.φ id),upd E.cs new (E.cs id),E.F⟩,rfl,h2, ?_,h1,hs.defers,hs.size,fun t' x hx=>?_⟩
 · funext i
   by_cases e : new = i
   · subst e; simp [lk,upd_same]
   · by_cases e2 : id = i
     · subst e2; simp [lk,upd_same,upd_other _ _ _ e,e]
     · simp only [lk,if_neg e,if_neg e2,upd_other _ _ _ e,upd_other _ _ _ e2,hs.heap]
 · simp only [lk] at hx
   split at hx
   · rename_i e
     subst e
     simp only [Option.some.injEq] at hx
     subst hx
     obtain ⟨v,hv,hx⟩:=hs.tmps t _ ht
     refine ⟨v,hv, ?_⟩
     simp only [Rep] at hx ⊢
     obtain ⟨b0,ad,len',cap,q1,q2,rfl,q3⟩:=hx
     rw [hb'] at q1
     cases q1
     obtain ⟨k1,k2,k3,k4,k5⟩:=q3 rfl
     exact ⟨{ blk with gen:=0 },ad,len',cap,upd_same _ _ _,Nat.le_refl _,rfl,fun _=>⟨k1,k2,k3,k4,fun hp=>by simp only [upd_same]; exact k5 hp⟩⟩
   · obtain ⟨v,hv,hx⟩:=hs.tmps t' x hx
     exact ⟨v,hv,Rep.mono h2 _ _ hx⟩
theorem W.mv {P : Program} {c : Code} {Q : AS → Prop} {fs : List Fr} {n : Nat} (t new : Nat) {ts : NL AV} {H : NL ABlk} {id g off len : Nat} {blk : ABlk} (ht : lk ts t = some (.sl id g off len)) (hb : lk H id = some blk) (hg : blk.gen = g) (hk : blk.kind = 2) (hn : lk H new = none)
   (h : W P Q c fs ⟨n,(t, .sl new 0 off len) :: ts,(new, { blk with gen:=0 }) :: (id, { gen:=g + 1 }) :: H⟩) : W P Q c fs ⟨n,ts,H⟩:=W.env (mv_env ht hb hg hk hn) h
theorem HR.setI {E : Env} (hr : HR E) {id : Nat} {blk : ABlk} {b : Bool} (hb : E.H id = some blk) (hk : blk.kind = 2) (hall : b = true → blk.rows.all (fun r => r.all AV.isInl) = true) :
   HR ⟨E.w,upd E.H id (some { blk with inl:=b }),E.φ,E.cs,E.F⟩ ∧ Step E ⟨E.w,upd E.H id (some { blk with inl:=b }),E.φ,E.cs,E.F⟩:=by
 have hst : Step E ⟨E.w,upd E.H id (some { blk with inl:=b }),E.φ,E.cs,E.F⟩:=by
   refine ⟨Nat.le_refl _,fun b _ _=>rfl,rfl,fun k b' hbk=>?_,fun k b' hbk hkk hck=>?_,Kept.refl _⟩
   · by_cases e : id = k
     · subst e
       rw [hb] at hbk; cases hbk
       exact ⟨_,upd_same _ _ _,Nat.le_refl _,fun _ _=>⟨.inl rfl,rfl,rfl,rfl,rfl⟩⟩
     · exact ⟨b',by simp [upd_other _ _ _ e,hbk],Nat.le_refl _,fun _ _=>⟨.inl rfl,rfl,rfl,rfl,rfl⟩⟩
   · left
     by_cases e : id = k
     · subst e; exact ⟨id,blk,hb,by omega,hck,rfl, .inl rfl⟩
     · exact ⟨k,b',by simpa [upd_other _ _ _ e] using hbk,hkk,hck,rfl, .inl rfl⟩
 have hex : ∀ k b',upd E.H id (some { blk with inl:=b }) k = some b' → ∃ b0,E.H k = some b0 ∧ b'.kind = b0.kind:=fun k b' h=>by
   by_cases e : id = k
   · subst e
     rw [upd_same] at h; cases h
     exact ⟨blk,hb,rfl⟩
   · rw [upd_other _ _ _ e] at h
     exact ⟨b',h,rfl⟩
 refine ⟨⟨fun k b' hbk=>?_,fun i j bi bj hi hj ki kj ci cj hij=>?_,fun k b' hbk hkk hck=>?_,hr.fb⟩,hst⟩
 · by_cases e : id = k
   · subst e
     simp only [upd_same,Option.some.injEq] at hbk
     subst hbk
     obtain ⟨C,a1,a2,a3,a4,a5,a6⟩:=hr.cells hb (.inr hk)
     unfold BlkOK
     simp only [hk]
     refine ⟨C,a1,a2,a3,a4,a5,fun r row j x h1 h2=>?_⟩
     obtain ⟨u,b1,b2,b3⟩:=a6 r row j x h1 h2
     refine ⟨u,b1,b2, ?_⟩
     have b4:=Rep.mono hst _ _ b3.rep
     simp only [hk] at b4
     cases b with
     | false=>exact b4
     | true =>
       have:=List.all_eq_true.1 (List.all_eq_true.1 (hall rfl) row (List.mem_of_getElem? h1)) x (List.mem_of_getElem? h2)
       exact isInl_rep b4 this
   · simp only [upd_other _ _ _ e] at hbk
     exact BlkOK.mono hst rfl rfl (fun _ _=>rfl) (hr.blk k b' hbk)
 · obtain ⟨b0,p1,p2⟩:=hex i bi hi
   obtain ⟨b1,q1,q2⟩:=hex j bj hj
   exact hr.inj i j b0 b1 p1 q1 (by omega) (by omega) ci cj hij
 · obtain ⟨b0,p1,p2⟩:=hex k b' hbk
   exact hr.nf k b0 p1 (by omega) hck
theorem W.setI {P : Program} {c : Code} {Q : AS → Prop} {fs : List Fr} {n : Nat} (id : Nat) (b : Bool) {ts : NL AV} {H : NL ABlk} {blk : ABlk} (hb : lk H id = some blk) (hk : blk.kind = 2) (hall : b = true → blk.rows.all (fun r => r.all AV.isInl) = true)
   (h : W P Q c fs ⟨n,ts,(id, { blk with inl:=b }) :: H⟩) : W P Q c fs ⟨n,ts,H⟩:=by
 refine W.env (fun a E hs=>?_) h
 have hb' : E.H id = some blk:=by rw [hs.heap]; exact hb
 obtain ⟨h1,h2⟩:=hs.hr.setI (b:=b) hb' hk hall
 refine ⟨⟨E.w,upd E.H id (some { blk with inl:=b }),E.φ,E.cs,E.F⟩,rfl,h2, ?_,h1,hs.defers,hs.size,fun t' x hx=>?_⟩
 · funext i
   by_cases e : id = i
   · subst e; simp [lk,upd_same]
   · simp only [lk,if_neg e,upd_other _ _ _ e,hs.heap]
 · obtain ⟨v,hv,hx⟩:=hs.tmps t' x hx
   exact ⟨v,hv,Rep.mono h2 _ _ hx⟩
end
end Go.Abs
namespace Go.Abs
open Go
section
def allA (P : Program) (specs : FuncId → Option Spec) (kk : Nat) (ops : Array Oper) (R : AS → Prop) : Nat → Array Bool → AS → Prop
 | 0,listed, σ=>Region.ready .any ops listed = [] ∧ R σ
 | fuel + 1,listed, σ=>(Region.ready .any ops listed = [] → R σ) ∧ ∀ i ∈ Region.ready .any ops listed, ∃ o σ' fp,ops[i]? = some o ∧ stepA P specs kk ops σ o = some (σ',fp) ∧ (fp.as → allA P specs kk ops R fuel (listed.setIfInBounds i true) σ')
theorem allA_wp {P : Program} {specs : FuncId → Option Spec} {kk : Nat} (hsp : ∀ f s,specs f = some s → FnC P f s.fn) {ops : Array Oper} {R : AS → Prop} {Q : Exit → Act → World → Prop} : ∀ (fuel : Nat) (listed : Array Bool) {σ : AS} {a : Act} {E : Env},SR σ a E → allA P specs kk ops R fuel listed σ →
   (∀ σ' a' E',R σ' → SR σ' a' E' → Step E E' → Q .normal a' E'.w) → wpAny P .any ops Q fuel listed a E.w
 | 0,listed, σ,a,E,h,ha,hq=>⟨ha.1,hq σ a E ha.2 h (Step.refl E)⟩
 | fuel + 1,listed, σ,a,E,h,ha,hq=>by
   refine ⟨fun h0=>hq σ a E (ha.1 h0) h (Step.refl E),fun i hi=>?_⟩
   obtain ⟨o, σ',fp,ho,hs,hr⟩:=ha.2 i hi
   unfold wpOp
   simp only [ho]
   exact step_wp hsp h hs fun has a' E' h1 h2=>allA_wp hsp fuel _ h1 (hr has) fun σ'' a'' E'' g1 g2 g3=>hq σ'' a'' E'' g1 g2 (h2.trans g3)
theorem WP.regionAll {P : Program} {specs : FuncId → Option Spec} {kk : Nat} (hm : P.follows .mixedOrders = true) (hsp : ∀ f s,specs f = some s → FnC P f s.fn) {id : Nat} {ops : Array Oper} {Q : Exit → AS → Prop} {σ τ : AS}
   (h : allA P specs kk ops (fun σ'=>AS.le τ σ') ops.size (Array.replicate ops.size false) σ) (hq : Q .normal τ) : WP P (.region id ops true) Q σ:=fun _ =>
 ⟨.normal, τ,hq,fun a E hs=>by
   refine wp_region_any hm ?_
   let E1 : Env:=⟨{ E.w with drawn:=E.w.drawn + 1 },E.H,E.φ,E.cs,E.F⟩
   have hs1 : Step E E1:=⟨Nat.le_refl _,fun _ _ _=>rfl,rfl,fun _ blk hb=>⟨blk,hb,Nat.le_refl _,fun _ _=>⟨.inl rfl,rfl,rfl,rfl,rfl⟩⟩,fun _ blk hb hk hc => .inl ⟨_,blk,hb,hk,hc,rfl, .inl rfl⟩,⟨rfl,rfl,rfl,fun _ _=>rfl⟩⟩
   have hr1 : HR E1:=⟨fun id b hb=>BlkOK.mono hs1 rfl rfl (fun _ _=>rfl) (hs.hr.blk id b hb),hs.hr.inj,hs.hr.nf,hs.hr.fb⟩
   have h1 : SR σ a E1:=⟨hs.heap,hr1,hs.defers,hs.size,fun t x ht=>by
     obtain ⟨v,hv,hx⟩:=hs.tmps t x ht
     exact ⟨v,hv,Rep.mono hs1 _ _ hx⟩⟩
   exact allA_wp (E:=E1) hsp _ _ h1 h fun σ' a' E' g1 g2 g3=>⟨τ,E',rfl,g2.le g1,hs1.trans g3,rfl,rfl⟩⟩
theorem W.regionAll {P : Program} {Q : AS → Prop} {specs : NL Spec} (hm : P.follows .mixedOrders = true) (hsp : ∀ p ∈ specs,FnC P p.1 p.2.fn) {c : Code} {fs : List Fr} {id : Nat} {ops : Array Oper} (hc : c = .region id ops true) {σ : AS} (τ : AS)
   (h : allA P (specOf specs) 0 ops (fun σ'=>AS.le τ σ') ops.size (Array.replicate ops.size false) σ) (hN : N P Q fs τ) : W P Q c fs σ:=by
 refine ⟨?_⟩
 rw [hc]
 exact WP.regionAll hm (specOf_ok hsp) h hN.h
theorem W.regionH {P : Program} {Q : AS → Prop} {specs : NL Spec} {c : Code} {fs : List Fr} {id : Nat} {ops : Array Oper} {σ : AS} {n : Nat} {ts : NL AV} {H : NL ABlk} (hm : P.follows .mixedOrders = true) (hsp : ∀ p ∈ specs,FnC P p.1 p.2.fn) (hc : c = .region id ops true)
   (ha : allA P (specOf specs) 0 ops (fun σ'=>AS.le ⟨n,ts,H⟩ σ') ops.size (Array.replicate ops.size false) σ) (hN : N P Q fs ⟨n,ts,H⟩) : W P Q c fs σ:=W.regionAll hm hsp hc _ ha hN
theorem allA_step {P : Program} {specs : FuncId → Option Spec} {kk : Nat} {ops : Array Oper} {R : AS → Prop} {fuel : Nat} {listed : Array Bool} {σ : AS} (x : Nat) (l : List Nat) (hl : Region.ready .any ops listed = x :: l)
   (h : ∀ i ∈ x :: l, ∃ o σ' fp,ops[i]? = some o ∧ stepA P specs kk ops σ o = some (σ',fp) ∧ (fp.as → allA P specs kk ops R fuel (listed.setIfInBounds i true) σ')) : allA P specs kk ops R (fuel + 1) listed σ :=
 ⟨fun h0=>(by rw [hl] at h0; cases h0),fun i hi=>h i (by rw [← hl]; exact hi)⟩
theorem allA_end {P : Program} {specs : FuncId → Option Spec} {kk : Nat} {ops : Array Oper} {R : AS → Prop} {listed : Array Bool} {σ : AS} (hl : Region.ready .any ops listed = []) (h : R σ) : allA P specs kk ops R 0 listed σ := ⟨hl,h⟩
end
end Go.Abs
