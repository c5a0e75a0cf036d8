/- The grid: one object. Conditions: none. -/
import Derived.Test.YtmcbpehpogjmoaaNp8
import Derived.Test.YtmcbpehpogjmoaaAb6
namespace Go.Abs.Np
open Go Go.Proofs Go.Abs
set_option maxRecDepth 100000
set_option maxHeartbeats 4000000
set_option linter.unusedSimpArgs false
set_option linter.unusedVariables false
section
structure OInv (id : Int) (V : Ob → Prop) (tk : Int → Tok) (U D : Int → List Msg) (e : En) (h : Dir.Hd) : Prop where
 di : Dir.DI V zOb e h
 eid : e.id = id
 nd : ∀ n,N3 n → Rn id n V (tk n).mode (tk n).want (tk n).due (U n) (D n) (h.mode n) (h.demand n) (h.asked n)
 ob : ∀ n,N3 n → (tk n).mode ≠ 0 → V (tk n).obj
def nc (tk : Int → Tok) (U D : Int → List Msg) (n : Int) : Nat := cst (U n) + cst (D n) + if (tk n).due = true then 1 else 0
def S3 (f : Int → Nat) : Nat := f 0 + f 1 + f 2
def phi (tk : Int → Tok) (U D : Int → List Msg) (e : En) : Nat := S3 (nc tk U D) + e.cost
theorem S3_chg {F G : Int → Nat} {n : Int} (hn : N3 n) (h : ∀ k,k ≠ n → G k = F k) : S3 G + F n = S3 F + G n := by
 unfold S3
 rcases hn with rfl | rfl | rfl
 · rw [h 1 (by decide),h 2 (by decide)]; omega
 · rw [h 0 (by decide),h 2 (by decide)]; omega
 · rw [h 0 (by decide),h 1 (by decide)]; omega
theorem OInv.congr {id : Int} {V : Ob → Prop} {tk tk' : Int → Tok} {U U' D D' : Int → List Msg} {e : En} {h : Dir.Hd} (hi : OInv id V tk U D e h) (ht : ∀ n,N3 n → tk' n = tk n ∧ U' n = U n ∧ D' n = D n) : OInv id V tk' U' D' e h :=
 ⟨hi.di,hi.eid,fun n hn=>by obtain ⟨a,b,c⟩:=ht n hn; rw [a,b,c]; exact hi.nd n hn,fun n hn=>by rw [(ht n hn).1]; exact hi.ob n hn⟩
theorem phi_congr {tk tk' : Int → Tok} {U U' D D' : Int → List Msg} {e : En} (ht : ∀ n,N3 n → tk' n = tk n ∧ U' n = U n ∧ D' n = D n) : phi tk' U' D' e = phi tk U D e := by
 have h0:=ht 0 (.inl rfl)
 have h1:=ht 1 (.inr (.inl rfl))
 have h2:=ht 2 (.inr (.inr rfl))
 unfold phi S3 nc
 rw [h0.1,h0.2.1,h0.2.2,h1.1,h1.2.1,h1.2.2,h2.1,h2.2.1,h2.2.2]
theorem M3_N3 {n : Int} : Dir.M3 n ↔ N3 n := by unfold Dir.M3 N3; omega
theorem N3_N4 {n : Int} (h : N3 n) : Dir.N4 n := by unfold N3 at h; unfold Dir.N4; omega
section
variable {id : Int} {V : Ob → Prop} {tk : Int → Tok} {U D : Int → List Msg} {e : En} {h : Dir.Hd}
theorem OInv.node (hi : OInv id V tk U D e h) {n : Int} (hn : N3 n) {t : Tok} {u d : List Msg} (hr : Rn id n V t.mode t.want t.due u d (h.mode n) (h.demand n) (h.asked n)) (ho : t.mode ≠ 0 → V t.obj) : OInv id V (Dir.up tk n t) (Dir.up U n u) (Dir.up D n d) e h := by
 refine ⟨hi.di,hi.eid,fun k hk=>?_,fun k hk=>?_⟩
 · by_cases e1 : k = n
   · subst e1
     rw [Dir.up_same,Dir.up_same,Dir.up_same]
     exact hr
   · rw [Dir.up_ne _ _ e1,Dir.up_ne _ _ e1,Dir.up_ne _ _ e1]
     exact hi.nd k hk
 · by_cases e1 : k = n
   · subst e1
     rw [Dir.up_same]
     exact ho
   · rw [Dir.up_ne _ _ e1]
     exact hi.ob k hk
theorem phi_node {n : Int} (hn : N3 n) (t : Tok) (u d : List Msg) : phi (Dir.up tk n t) (Dir.up U n u) (Dir.up D n d) e + nc tk U D n = phi tk U D e + (cst u + cst d + if t.due = true then 1 else 0) := by
 have:=S3_chg (F:=nc tk U D) (G:=nc (Dir.up tk n t) (Dir.up U n u) (Dir.up D n d)) hn (fun k hk=>by
   unfold nc
   rw [Dir.up_ne _ _ hk,Dir.up_ne _ _ hk,Dir.up_ne _ _ hk])
 have e2 : nc (Dir.up tk n t) (Dir.up U n u) (Dir.up D n d) n = cst u + cst d + if t.due = true then 1 else 0:=by
   unfold nc
   rw [Dir.up_same,Dir.up_same,Dir.up_same]
 unfold phi
 omega
theorem cst_one (m : Msg) : cst [m] = mC m := rfl
theorem OInv.want (hi : OInv id V tk U D e h) {n m : Int} (hn : N3 n) (h0 : (tk n).want = 0) (hm : m = 1 ∨ m = 2) (hl : (tk n).mode < m) :
   OInv id V (Dir.up tk n { tk n with want:=m }) (Dir.up U n (U n ++ [askM n id m])) (Dir.up D n (D n)) e h :=
 hi.node hn ((hi.nd n hn).want h0 hm hl) (hi.ob n hn)
theorem OInv.unpin (hi : OInv id V tk U D e h) {n : Int} (hn : N3 n) (hid : (tk n).id = id) (hd : (tk n).due = true) :
   OInv id V (Dir.up tk n (bckT (tk n))) (Dir.up U n (U n ++ [bckM n (tk n) 0])) (Dir.up D n (D n)) e h ∧ phi (Dir.up tk n (bckT (tk n))) (Dir.up U n (U n ++ [bckM n (tk n) 0])) (Dir.up D n (D n)) e ≤ phi tk U D e:=by
 have hm : bckM n (tk n) 0 = retM n id (tk n).mode (if (tk n).mode = 2 then (tk n).obj else zOb):=by rw [← hid]; rfl
 constructor
 · rw [hm]
   refine hi.node hn ((hi.nd n hn).unpin hd _ fun h2=>?_) fun e1=>absurd rfl e1
   rw [if_pos h2]
   exact hi.ob n hn (by omega)
 · have:=phi_node (tk:=tk) (U:=U) (D:=D) (e:=e) hn (bckT (tk n)) (U n ++ [bckM n (tk n) 0]) (D n)
   have c1 : mC (bckM n (tk n) 0) = 1:=rfl
   have c2 : (bckT (tk n)).due = false:=rfl
   rw [cst_app,cst_one,c1,c2] at this
   unfold nc at this
   rw [hd] at this
   simp only [if_true,Bool.false_eq_true,if_false] at this
   omega
theorem OInv.grant (hi : OInv id V tk U D e h) {n : Int} (hn : N3 n) {m : Msg} {D' : List Msg} (hD : D n = m :: D') (hk : m.kind = 2) :
   (tk n).want ≠ 0 ∧ (m.mode = 1 ∨ m.mode = 2) ∧ V m.obj ∧ m.to = n ∧ OInv id V (Dir.up tk n (grtT (tk n) m)) (Dir.up U n (U n)) (Dir.up D n D') e h ∧ phi (Dir.up tk n (grtT (tk n) m)) (Dir.up U n (U n)) (Dir.up D n D') e + 1 ≤ phi tk U D e:=by
 obtain ⟨o,rfl,hw,hd,hl,ho,hr⟩:=(hi.nd n hn).grant hD hk
 have e1 : grtT (tk n) (graM 0 id n (tk n).want o) = { tk n with mode:=(tk n).want,obj:=o,want:=0 }:=by
   unfold grtT graM
   rw [if_pos (Int.le_refl _)]
 refine ⟨by omega,hw,ho,rfl, ?_, ?_⟩
 · rw [e1]
   refine hi.node hn ?_ fun _=>ho
   rw [← hd] at hr
   exact hr
 · have:=phi_node (tk:=tk) (U:=U) (D:=D) (e:=e) hn (grtT (tk n) (graM 0 id n (tk n).want o)) (U n) D'
   have c1 : mC (graM 0 id n (tk n).want o) = 1:=rfl
   have c2 : (grtT (tk n) (graM 0 id n (tk n).want o)).due = (tk n).due:=rfl
   unfold nc at this
   rw [c2,hd,hD,cst,c1] at this
   simp only [Bool.false_eq_true,if_false] at this
   omega
theorem OInv.rev (hi : OInv id V tk U D e h) {n : Int} (hn : N3 n) (hid : (tk n).id = id) {m : Msg} {D' : List Msg} (hD : D n = m :: D') (hk : m.kind = 3) :
   (tk n).mode ≠ 0 ∧ m.fr = 0 ∧ m.to = n ∧
   (OInv id V (Dir.up tk n { tk n with due:=true }) (Dir.up U n (U n)) (Dir.up D n D') e h ∧ phi (Dir.up tk n { tk n with due:=true }) (Dir.up U n (U n)) (Dir.up D n D') e + 1 ≤ phi tk U D e) ∧
   (OInv id V (Dir.up tk n (bckT (tk n))) (Dir.up U n (U n ++ [bckM n (tk n) 0])) (Dir.up D n D') e h ∧ phi (Dir.up tk n (bckT (tk n))) (Dir.up U n (U n ++ [bckM n (tk n) 0])) (Dir.up D n D') e + 1 ≤ phi tk U D e):=by
 obtain ⟨rfl,ha,hd,h1,h2⟩:=(hi.nd n hn).rev hD hk
 have hm : bckM n (tk n) 0 = retM n id (tk n).mode (if (tk n).mode = 2 then (tk n).obj else zOb):=by rw [← hid]; rfl
 have c0 : mC (revM 0 id n) = 2:=rfl
 refine ⟨ha,rfl,rfl,⟨hi.node hn h1 (hi.ob n hn), ?_⟩, ?_, ?_⟩
 · have:=phi_node (tk:=tk) (U:=U) (D:=D) (e:=e) hn { tk n with due:=true } (U n) D'
   unfold nc at this
   rw [hd,hD,cst,c0] at this
   simp only [Bool.false_eq_true,if_false,if_true] at this ⊢
   omega
 · rw [hm]
   refine hi.node hn (h2 _ _ fun e1=>?_) fun e1=>absurd rfl e1
   rw [if_pos e1]
   exact hi.ob n hn ha
 · have:=phi_node (tk:=tk) (U:=U) (D:=D) (e:=e) hn (bckT (tk n)) (U n ++ [bckM n (tk n) 0]) D'
   have c1 : mC (bckM n (tk n) 0) = 1:=rfl
   have c2 : (bckT (tk n)).due = false:=rfl
   unfold nc at this
   rw [cst_app,cst_one,c1,c2,hd,hD,cst,c0] at this
   simp only [Bool.false_eq_true,if_false] at this
   omega
theorem OInv.put (hi : OInv id V tk U D e h) {n : Int} (hn : N3 n) (hm : (tk n).mode = 2) (V' : Ob → Prop) {o : Ob} (ho : V' o) : OInv id V' (Dir.up tk n { tk n with obj := o }) U D e h := by
 obtain ⟨hv,hr⟩:=(hi.nd n hn).chg2 hm V'
 have how : e.owner = n:=(hi.di.inv.pre.m2 n (N3_N4 hn)).1 hv
 have hz : ∀ k,N3 k → k ≠ n → h.mode k = 0:=fun k hk hne=>by
   obtain ⟨a,b⟩:=hi.di.inv.pre.m0 k (N3_N4 hk)
   have h2 : h.mode k ≠ 2:=fun e1=>hne (((hi.di.inv.pre.m2 k (N3_N4 hk)).1 e1).symm.trans how)
   have h1 : h.mode k ≠ 1:=fun e1=>by
     have:=(hi.di.inv.pre.m1 k (N3_N4 hk)).1 e1
     rw [hi.di.inv.pre.one (by rw [how]; unfold N3 at hn; omega)] at this
     cases this
   omega
 refine ⟨⟨hi.di.inv,fun e1=>?_,hi.di.m3,hi.di.a3⟩,hi.eid,fun k hk=>?_,fun k hk hne=>?_⟩
 · rw [how] at e1
   unfold N3 at hn
   omega
 · by_cases e1 : k = n
   · subst e1
     rw [Dir.up_same]
     exact hr
   · rw [Dir.up_ne _ _ e1]
     exact (hi.nd k hk).chg0 (hz k hk e1) V'
 · by_cases e1 : k = n
   · subst e1
     rw [Dir.up_same]
     exact ho
   · rw [Dir.up_ne _ _ e1] at hne ⊢
     exact absurd (hz k hk e1) ((hi.nd k hk).mode.1 hne)
noncomputable def toN (id : Int) (ms : List (Dir.Mg Ob)) (n : Int) : List Msg := (ms.map (mgM 0 id)).filter fun m => m.to == n
theorem toN_cons (id : Int) (m : Dir.Mg Ob) (r : List (Dir.Mg Ob)) (n : Int) : toN id (m :: r) n = (if (mgM 0 id m).to = n then [mgM 0 id m] else []) ++ toN id r n := by
 unfold toN
 rw [List.map_cons,List.filter_cons]
 by_cases e1 : (mgM 0 id m).to = n
 · simp [e1]
 · simp [e1]
theorem app_msgs : ∀ {ms : List (Dir.Mg Ob)} {h : Dir.Hd} {D : Int → List Msg},Dir.Str V h ms → h.mode 3 = 0 → h.asked 3 = 0 →
   (∀ n,N3 n → Rn id n V (tk n).mode (tk n).want (tk n).due (U n) (D n) (h.mode n) (h.demand n) (h.asked n)) →
   (∀ n,N3 n → Rn id n V (tk n).mode (tk n).want (tk n).due (U n) (D n ++ toN id ms n) ((Dir.aft h ms).mode n) ((Dir.aft h ms).demand n) ((Dir.aft h ms).asked n)) ∧ S3 (fun n=>cst (toN id ms n)) = Dir.mgsC ms
 | [],h,D,_,_,_,hr=>⟨fun n hn=>by rw [show toN id [] n = [] from rfl,List.append_nil]; exact hr n hn,rfl⟩
 | .rev to :: r,h,D,hs,h3,a3,hr=>by
   obtain ⟨x1,x2,x3,x4⟩:=hs
   have hto : N3 to:=M3_N3.1 (Dir.N4_M3 x1 fun e1=>x2 (by rw [e1]; exact h3))
   obtain ⟨k1,k2⟩:=app_msgs (ms:=r) (h:={ h with demand:=Dir.up h.demand to true }) (D:=fun n=>D n ++ (if to = n then [revM 0 id n] else [])) x4 h3 a3 (fun n hn=>by
     dsimp only
     by_cases e1 : to = n
     · subst e1
       rw [if_pos rfl,Dir.up_same]
       exact (hr to hn).dem x3 x2
     · rw [if_neg e1,List.append_nil,Dir.up_ne _ _ (fun e2=>e1 e2.symm)]
       exact hr n hn)
   refine ⟨fun n hn=>?_, ?_⟩
   · have:=k1 n hn
     rw [toN_cons]
     rw [List.append_assoc] at this
     have e2 : (if (mgM 0 id (.rev to)).to = n then [mgM 0 id (.rev to)] else []) = if to = n then [revM 0 id n] else []:=by
       by_cases e1 : to = n
       · subst e1; rfl
       · rw [if_neg e1]; exact if_neg e1
     rw [e2]
     exact this
   · rw [Dir.mgsC, ← k2]
     unfold S3
     dsimp only
     rw [toN_cons,toN_cons,toN_cons,cst_app,cst_app,cst_app]
     have c1 : cst [mgM 0 id (.rev to)] = 2:=rfl
     have c2 : (mgM 0 id (.rev to)).to = to:=rfl
     rw [c2]
     rcases hto with rfl | rfl | rfl
     · rw [if_pos rfl,if_neg (by decide),if_neg (by decide),c1]; simp only [cst,Dir.mgC]; omega
     · rw [if_neg (by decide),if_pos rfl,if_neg (by decide),c1]; simp only [cst,Dir.mgC]; omega
     · rw [if_neg (by decide),if_neg (by decide),if_pos rfl,c1]; simp only [cst,Dir.mgC]; omega
 | .grant to m o :: r,h,D,hs,h3,a3,hr=>by
   obtain ⟨x1,x2,x3,x4,x5,x6,x7⟩:=hs
   have hne : to ≠ 3:=fun e1=>by rw [e1,a3] at x3; omega
   have hto : N3 to:=M3_N3.1 (Dir.N4_M3 x1 hne)
   obtain ⟨k1,k2⟩:=app_msgs (ms:=r) (h:={ h with mode:=Dir.up h.mode to m,asked:=Dir.up h.asked to 0 }) (D:=fun n=>D n ++ (if to = n then [graM 0 id n m o] else [])) x7 (by show Dir.up h.mode to m 3 = 0; rw [Dir.up_ne _ _ (Ne.symm hne)]; exact h3) (by show Dir.up h.asked to 0 3 = 0; rw [Dir.up_ne _ _ (Ne.symm hne)]; exact a3) (fun n hn=>by
     dsimp only
     by_cases e1 : to = n
     · subst e1
       rw [if_pos rfl,Dir.up_same,Dir.up_same]
       have:=(hr to hn).gra x2 (by rw [x3]; omega) x6
       rw [x3] at this
       rw [x2]
       exact this
     · rw [if_neg e1,List.append_nil,Dir.up_ne _ _ (fun e2=>e1 e2.symm),Dir.up_ne _ _ (fun e2=>e1 e2.symm)]
       exact hr n hn)
   refine ⟨fun n hn=>?_, ?_⟩
   · have:=k1 n hn
     rw [toN_cons]
     rw [List.append_assoc] at this
     have e2 : (if (mgM 0 id (.grant to m o)).to = n then [mgM 0 id (.grant to m o)] else []) = if to = n then [graM 0 id n m o] else []:=by
       by_cases e1 : to = n
       · subst e1; rfl
       · rw [if_neg e1]; exact if_neg e1
     rw [e2]
     exact this
   · rw [Dir.mgsC, ← k2]
     unfold S3
     dsimp only
     rw [toN_cons,toN_cons,toN_cons,cst_app,cst_app,cst_app]
     have c1 : cst [mgM 0 id (.grant to m o)] = 1:=rfl
     have c2 : (mgM 0 id (.grant to m o)).to = to:=rfl
     rw [c2]
     rcases hto with rfl | rfl | rfl
     · rw [if_pos rfl,if_neg (by decide),if_neg (by decide),c1]; simp only [cst,Dir.mgC]; omega
     · rw [if_neg (by decide),if_pos rfl,if_neg (by decide),c1]; simp only [cst,Dir.mgC]; omega
     · rw [if_neg (by decide),if_neg (by decide),if_pos rfl,c1]; simp only [cst,Dir.mgC]; omega
theorem goQ_id (z : Ob) (e : En) : (Dir.goOn z e).2.id = e.id := by
 unfold Dir.goOn
 split <;> rfl
theorem OInv.ask (hi : OInv id V tk U D e h) {n : Int} (hn : N3 n) {m : Msg} {U' : List Msg} (hU : U n = m :: U') (hk : m.kind = 1) :
   m.fr = n ∧ (m.mode = 1 ∨ m.mode = 2) ∧ h.asked n = 0 ∧ h.mode n < m.mode ∧
   (∃ h',OInv id V tk (Dir.up U n U') (fun k=>D k ++ toN id (Dir.askE zOb e n m.mode).1 k) (Dir.askE zOb e n m.mode).2 h') ∧ phi tk (Dir.up U n U') (fun k=>D k ++ toN id (Dir.askE zOb e n m.mode).1 k) (Dir.askE zOb e n m.mode).2 + 1 ≤ phi tk U D e ∧ Dir.mgsC (Dir.askE zOb e n m.mode).1 ≤ e.cost + 5:=by
 obtain ⟨rfl,hw,hl,ha,hr⟩:=(hi.nd n hn).ask hU hk
 have em : (askM n id (tk n).want).mode = (tk n).want:=rfl
 rw [em]
 obtain ⟨s1,s2,s3⟩:=Dir.ask_all hi.di (M3_N3.2 hn) ha hw hl
 have hn3 : (3 : Int) ≠ n:=fun e1=>by unfold N3 at hn; omega
 obtain ⟨k1,k2⟩:=app_msgs (id:=id) (tk:=tk) (U:=Dir.up U n U') (D:=D) s1 hi.di.m3 (by show Dir.up h.asked n _ 3 = 0; rw [Dir.up_ne _ _ hn3]; exact hi.di.a3) (fun k hk=>by
   dsimp only
   by_cases e1 : k = n
   · subst e1
     rw [Dir.up_same,Dir.up_same]
     exact hr
   · rw [Dir.up_ne _ _ e1,Dir.up_ne _ _ e1]
     exact hi.nd k hk)
 refine ⟨rfl,hw,ha,hl,⟨_,s2, ?_,k1,hi.ob⟩, ?_,by omega⟩
 · unfold Dir.askE
   rw [goQ_id]
   exact hi.eid
 · have h2:=S3_chg (F:=nc tk U D) (G:=nc tk (Dir.up U n U') D) hn (fun k hk=>by unfold nc; rw [Dir.up_ne _ _ hk])
   have h3 : nc tk U D n = nc tk (Dir.up U n U') D n + 6:=by
     unfold nc
     rw [Dir.up_same,hU,cst]
     have c1 : mC (askM n id (tk n).want) = 6:=rfl
     omega
   have h4 : S3 (nc tk (Dir.up U n U') fun k=>D k ++ toN id (Dir.askE zOb e n (tk n).want).1 k) = S3 (nc tk (Dir.up U n U') D) + S3 fun k=>cst (toN id (Dir.askE zOb e n (tk n).want).1 k):=by
     unfold S3 nc
     dsimp only
     rw [cst_app,cst_app,cst_app]
     omega
   unfold phi
   omega
theorem OInv.ret (hi : OInv id V tk U D e h) {n : Int} (hn : N3 n) {m : Msg} {U' : List Msg} (hU : U n = m :: U') (hk : m.kind = 4) :
   m.fr = n ∧ h.demand n = true ∧ (h.mode n = 2 → V m.obj) ∧
   (∃ h',OInv id V tk (Dir.up U n U') (fun k=>D k ++ toN id (Dir.retE zOb e n m.obj).1 k) (Dir.retE zOb e n m.obj).2 h') ∧ phi tk (Dir.up U n U') (fun k=>D k ++ toN id (Dir.retE zOb e n m.obj).1 k) (Dir.retE zOb e n m.obj).2 + 1 ≤ phi tk U D e ∧ Dir.mgsC (Dir.retE zOb e n m.obj).1 ≤ e.cost:=by
 obtain ⟨b,o,rfl,hd,hv,ho,hr⟩:=(hi.nd n hn).ret hU hk
 have em : (retM n id b o).obj = o:=rfl
 rw [em]
 obtain ⟨s1,s2,s3⟩:=Dir.ret_all hi.di (M3_N3.2 hn) hd ho
 have hn3 : (3 : Int) ≠ n:=fun e1=>by unfold N3 at hn; omega
 obtain ⟨k1,k2⟩:=app_msgs (id:=id) (tk:=tk) (U:=Dir.up U n U') (D:=D) s1 (by show Dir.up h.mode n _ 3 = 0; rw [Dir.up_ne _ _ hn3]; exact hi.di.m3) hi.di.a3 (fun k hk=>by
   dsimp only
   by_cases e1 : k = n
   · subst e1
     rw [Dir.up_same,Dir.up_same,Dir.up_same]
     exact hr
   · rw [Dir.up_ne _ _ e1,Dir.up_ne _ _ e1,Dir.up_ne _ _ e1]
     exact hi.nd k hk)
 refine ⟨rfl,hd,ho,⟨_,s2, ?_,k1,hi.ob⟩, ?_,by omega⟩
 · unfold Dir.retE
   rw [goQ_id]
   exact hi.eid
 · have h2:=S3_chg (F:=nc tk U D) (G:=nc tk (Dir.up U n U') D) hn (fun k hk=>by unfold nc; rw [Dir.up_ne _ _ hk])
   have h3 : nc tk U D n = nc tk (Dir.up U n U') D n + 1:=by
     unfold nc
     rw [Dir.up_same,hU,cst]
     have c1 : mC (retM n id b o) = 1:=rfl
     omega
   have h4 : S3 (nc tk (Dir.up U n U') fun k=>D k ++ toN id (Dir.retE zOb e n o).1 k) = S3 (nc tk (Dir.up U n U') D) + S3 fun k=>cst (toN id (Dir.retE zOb e n o).1 k):=by
     unfold S3 nc
     dsimp only
     rw [cst_app,cst_app,cst_app]
     omega
   unfold phi
   omega
theorem OInv.short (hi : OInv id V tk U D e h) : e.readers.length ≤ 3 ∧ e.waiting.length ≤ 3 ∧ e.queue.length ≤ 3 ∧ e.queue.length ≤ S3 (fun n => if h.asked n = 0 then 0 else 1) := by
 have three : ∀ l : List Int,l.Nodup → (∀ x ∈ l,Dir.M3 x) → l.length ≤ 3:=fun l hl hm=>by
   have:=Dir.nodup_len (S:=[0,1,2]) hl (fun x hx=>by
     have:=hm x hx
     unfold Dir.M3 at this
     simp only [List.mem_cons,List.not_mem_nil,or_false]
     omega)
   simpa using this
 have hr:=three e.readers (Dir.asc_nodup hi.di.inv.pre.asc) hi.di.rd
 have hq1 : (e.queue.map (·.1)).Nodup:=by
   rw [List.Nodup,List.pairwise_map]
   exact hi.di.inv.pre.q2
 have hq:=three (e.queue.map (·.1)) hq1 (fun x hx=>by
   obtain ⟨p,hp,rfl⟩:=List.mem_map.1 hx
   exact hi.di.qu p hp)
 rw [List.length_map] at hq
 refine ⟨hr, ?_,hq, ?_⟩
 · rcases hi.di.inv.wt with ⟨w1,_⟩ | ⟨w1,p,q,w2,w3⟩
   · rw [w1]; simp
   · rcases w3 with ⟨a,b⟩ | ⟨a,b,c⟩
     · rw [b]; simp
     · rw [c]
       exact Nat.le_trans (List.length_filter_le _ _) hr
 · have:=Dir.nodup_len (S:=([0,1,2] : List Int).filter fun n=>h.asked n != 0) hq1 (fun x hx=>by
     obtain ⟨p,hp,rfl⟩:=List.mem_map.1 hx
     have h3:=hi.di.qu p hp
     obtain ⟨_,a,b,_⟩:=hi.di.inv.pre.q1 p hp
     rw [List.mem_filter]
     unfold Dir.M3 at h3
     refine ⟨by simp only [List.mem_cons,List.not_mem_nil,or_false]; omega, ?_⟩
     rw [a]
     simp only [bne_iff_ne,ne_eq]
     omega)
   rw [List.length_map] at this
   refine Nat.le_trans this ?_
   unfold S3
   by_cases a0 : h.asked 0 = 0 <;> by_cases a1 : h.asked 1 = 0 <;> by_cases a2 : h.asked 2 = 0 <;> simp [List.filter_cons,a0,a1,a2]
theorem OInv.bound (hi : OInv id V tk U D e h) : phi tk U D e ≤ 24 := by
 have hs:=hi.short.2.2.2
 have c0:=(hi.nd 0 (.inl rfl)).cost
 have c1:=(hi.nd 1 (.inr (.inl rfl))).cost
 have c2:=(hi.nd 2 (.inr (.inr rfl))).cost
 unfold phi S3 nc Dir.Ent.cost Dir.dirC
 unfold S3 at hs
 dsimp only at hs
 split at hs <;> split at hs <;> split at hs <;> simp only [*,if_true,if_false] at c0 c1 c2 <;> omega
theorem OInv.zero (hi : OInv id V tk U D e h) (hz : ∀ n,N3 n → U n = [] ∧ D n = [] ∧ (tk n).due = false) : phi tk U D e = 0 ∧ ∀ n,N3 n → (tk n).want = 0 := by
 have hd : ∀ n,N3 n → h.demand n = false ∧ (h.asked n = 0 → (tk n).want = 0):=fun n hn=>by
   obtain ⟨a,b,c⟩:=hz n hn
   exact (hi.nd n hn).fin a b c
 have hq : e.queue = []:=by
   rcases hi.di.inv.wt with ⟨_,w2⟩ | ⟨w1,_⟩
   · exact w2
   · obtain ⟨x,hx⟩:=List.exists_mem_of_ne_nil _ w1
     obtain ⟨a,b,_⟩:=hi.di.wt x hx
     rw [(hd x (M3_N3.1 a)).1] at b
     cases b
 have ha : ∀ n,N3 n → h.asked n = 0:=fun n hn=>Classical.byContradiction fun hne=>by
   obtain ⟨p,hp,_⟩:=hi.di.inv.pre.q3 n (N3_N4 hn) hne
   rw [hq] at hp
   cases hp
 refine ⟨?_,fun n hn=>(hd n hn).2 (ha n hn)⟩
 unfold phi S3 nc Dir.Ent.cost Dir.dirC
 rw [hq,(hz 0 (.inl rfl)).1,(hz 0 (.inl rfl)).2.1,(hz 0 (.inl rfl)).2.2,(hz 1 (.inr (.inl rfl))).1,(hz 1 (.inr (.inl rfl))).2.1,(hz 1 (.inr (.inl rfl))).2.2,(hz 2 (.inr (.inr rfl))).1,(hz 2 (.inr (.inr rfl))).2.1,(hz 2 (.inr (.inr rfl))).2.2]
 simp [cst]
theorem phi_zero (h0 : phi tk U D e = 0) {n : Int} (hn : N3 n) : U n = [] ∧ D n = [] ∧ (tk n).due = false := by
 have : nc tk U D n = 0:=by
   unfold phi S3 at h0
   rcases hn with rfl | rfl | rfl <;> omega
 unfold nc at this
 have l1:=cst_len (U n)
 have l2:=cst_len (D n)
 refine ⟨List.length_eq_zero_iff.1 (by omega),List.length_eq_zero_iff.1 (by omega), ?_⟩
 cases hd : (tk n).due with
 | false=>rfl
 | true=>rw [hd,if_pos rfl] at this; omega
theorem OInv.ulen (hi : OInv id V tk U D e h) {n : Int} (hn : N3 n) : (U n).length ≤ 8 ∧ (D n).length ≤ 8 := by
 have:=(hi.nd n hn).cost
 have l1:=cst_len (U n)
 have l2:=cst_len (D n)
 omega
theorem OInv.safe (hi : OInv id V tk U D e h) {n k : Int} (hn : N3 n) (hk : N3 k) (hne : n ≠ k) (h2 : (tk n).mode = 2) : (tk k).mode = 0 := by
 have hv:=(hi.nd n hn).mode.2 h2
 have how : e.owner = n:=(hi.di.inv.pre.m2 n (N3_N4 hn)).1 hv
 refine Classical.byContradiction fun hm=>?_
 have hv2:=(hi.nd k hk).mode.1 hm
 obtain ⟨a,b⟩:=hi.di.inv.pre.m0 k (N3_N4 hk)
 have h2 : h.mode k ≠ 2:=fun e1=>hne (how.symm.trans ((hi.di.inv.pre.m2 k (N3_N4 hk)).1 e1))
 have h1 : h.mode k ≠ 1:=fun e1=>by
   have:=(hi.di.inv.pre.m1 k (N3_N4 hk)).1 e1
   rw [hi.di.inv.pre.one (by rw [how]; unfold N3 at hn; omega)] at this
   cases this
 omega
end
end
section
def upF (i : Int) (q : List Msg) : List Msg := q.filter fun m => m.id == i && (m.kind == 1 || m.kind == 4)
def dnF (i : Int) (q : List Msg) : List Msg := q.filter fun m => m.id == i && (m.kind == 2 || m.kind == 3)
noncomputable def Grd.pt (g : Grd) (k n : Int) : Tok := tkF (g.tk n) (idG k)
def Grd.pu (g : Grd) (k n : Int) : List Msg := upF (idG k) (Qn g.ls n 0)
def Grd.pd (g : Grd) (k n : Int) : List Msg := dnF (idG k) (Qn g.ls 0 n)
noncomputable def Grd.pe (g : Grd) (k : Int) : En := fndD (idG k) g.es
def VK (g : Grd) (k : Int) : Ob → Prop := fun o => IsDv o (idG k) (g.val k)
def GO (g : Grd) (k : Int) : Prop := ∃ h,OInv (idG k) (VK g k) (g.pt k) (g.pu k) (g.pd k) (g.pe k) h
noncomputable def Grd.phi (g : Grd) (k : Int) : Nat := Go.Abs.Np.phi (g.pt k) (g.pu k) (g.pd k) (g.pe k)
structure MsOK (m : Msg) : Prop where
 id : isK m.id
 fr : N3 m.fr
 to : N3 m.to
 kd : ((m.kind = 1 ∨ m.kind = 4) ∧ m.to = 0) ∨ ((m.kind = 2 ∨ m.kind = 3) ∧ m.fr = 0)
structure Bas (g : Grd) : Prop where
 tk : ∀ n,N3 n → TkOK (g.tk n)
 net : NtOK g.ls
 ms : ∀ f t, ∀ m ∈ Qn g.ls f t,MsOK m
 dv : validD 0 g.es = true
 di : ∀ e ∈ g.es,isK e.id
 de : ∀ e ∈ g.es,okE e
structure GInv (g : Grd) : Prop where
 bas : Bas g
 ob : ∀ k,N2 k → GO g k
theorem isK_N2 {k : Int} (h : N2 k) : isK (idG k) := by rcases h with rfl | rfl; exact .inl rfl; exact .inr rfl
theorem isK_ex {i : Int} (h : isK i) : ∃ k,N2 k ∧ i = idG k := by rcases h with h | h; exact ⟨0, .inl rfl,h⟩; exact ⟨1, .inr rfl,h⟩
theorem idG_inj {j k : Int} (h : idG j = idG k) : j = k := by unfold idG at h; omega
theorem idG_ne0 {k : Int} (h : N2 k) : idG k ≠ 0 := by unfold idG; rcases h with rfl | rfl <;> decide
theorem set_tk (g : Grd) {n m : Int} (hn : N3 n) (hm : N3 m) (l : List Tok) : (g.set n l).tk m = if m = n then l else g.tk m := by
 rcases hn with rfl | rfl | rfl <;> rcases hm with rfl | rfl | rfl <;> simp [Grd.set,Grd.tk]
theorem set_ls (g : Grd) (n : Int) (l : List Tok) : (g.set n l).ls = g.ls ∧ (g.set n l).es = g.es ∧ (g.set n l).v0 = g.v0 ∧ (g.set n l).v1 = g.v1 := by
 unfold Grd.set
 split
 · exact ⟨rfl,rfl,rfl,rfl⟩
 · split <;> exact ⟨rfl,rfl,rfl,rfl⟩
theorem gset_self (g : Grd) (n : Int) : g.set n (g.tk n) = g := by
 unfold Grd.set Grd.tk
 split
 · rfl
 · split <;> rfl
theorem Bas.elen {g : Grd} (h : Bas g) : g.es.length ≤ 2 := by
 have h1 : (g.es.map (·.id)).Nodup:=by
   rw [List.Nodup,List.pairwise_map]
   exact (validD_ascE h.dv).imp fun h=>by omega
 have:=Dir.nodup_len (S:=[idG 0,idG 1]) h1 (fun x hx=>by
   obtain ⟨t,ht,rfl⟩:=List.mem_map.1 hx
   rcases h.di t ht with e | e <;> simp [e])
 simpa using this
theorem fnd_put_eq {x : En} {l : List En} (h : AscE l) : fndD x.id (putD x l) = x := by
 obtain ⟨L,R,hl,h1,h2,h3⟩:=part x h
 have h4:=putG_part x h1 h2
 rw [← hl,putG_putD h] at h4
 unfold fndD
 rw [h4,List.find?_append,List.find?_cons]
 have : L.find? (fun e=>e.id == x.id) = none:=by
   rw [List.find?_eq_none]
   intro e he
   have:=h1 e he
   simp
   omega
 rw [this]
 simp
theorem fil_len {g : Grd} (h : GInv g) (f t : Int) : (Qn g.ls f t).length ≤ 32 := by
 have key : ∀ q : List Msg,(∀ m ∈ q,MsOK m ∧ m.fr = f ∧ m.to = t) → q.length ≤ (if t = 0 then (upF (idG 0) q).length + (upF (idG 1) q).length else 0) + (if f = 0 then (dnF (idG 0) q).length + (dnF (idG 1) q).length else 0):=by
   intro q
   induction q with
   | nil=>intro _; simp
   | cons m r ih =>
     intro hm
     obtain ⟨⟨a,_,_,b⟩,c,d⟩:=hm m (by simp)
     have:=ih fun x hx=>hm x (by simp [hx])
     rw [d] at b
     rw [c] at b
     unfold upF dnF at this ⊢
     rcases a with a | a <;> rcases b with ⟨b | b,e⟩ | ⟨b | b,e⟩ <;> simp only [List.filter_cons,a,b,e,idG] at this ⊢ <;> simp at this ⊢ <;> omega
 have:=key (Qn g.ls f t) fun m hm=>⟨h.bas.ms f t m hm,(Qn_mem h.bas.net hm).1,(Qn_mem h.bas.net hm).2.1⟩
 obtain ⟨h0,i0⟩:=h.ob 0 (.inl rfl)
 obtain ⟨h1,i1⟩:=h.ob 1 (.inr rfl)
 by_cases hq : Qn g.ls f t = []
 · rw [hq]; simp
 · obtain ⟨m,hm⟩:=List.exists_mem_of_ne_nil _ hq
   obtain ⟨_,_,hf,ht⟩:=Qn_mem h.bas.net hm
   refine Nat.le_trans this ?_
   have a0:=(i0.ulen hf).1
   have a1:=(i1.ulen hf).1
   have b0:=(i0.ulen ht).2
   have b1:=(i1.ulen ht).2
   unfold Grd.pu at a0 a1
   unfold Grd.pd at b0 b1
   by_cases e1 : t = 0 <;> by_cases e2 : f = 0
   · subst e1 e2; simp only [if_true]; omega
   · subst e1; simp only [if_true,if_neg e2]; omega
   · subst e2; simp only [if_true,if_neg e1]; omega
   · simp only [if_neg e1,if_neg e2]; omega
theorem filter_none {α : Type} {p : α → Bool} {l : List α} (h : ∀ x ∈ l,p x = false) : l.filter p = [] := by
 rw [List.filter_eq_nil_iff]
 intro x hx
 rw [h x hx]
 decide
theorem up_sent {ms : List Msg} {n : Int} (h : ∀ m ∈ ms,m.fr = n ∧ m.to = 0 ∧ (m.kind = 1 ∨ m.kind = 4)) (i p : Int) :
   upF i (ms.filter fun m=>m.fr == p && m.to == 0) = (if p = n then ms.filter fun m=>m.id == i else []) ∧ dnF i (ms.filter fun m=>m.fr == 0 && m.to == p) = []:=by
 constructor
 · unfold upF
   rw [List.filter_filter]
   by_cases hp : p = n
   · rw [if_pos hp]
     apply List.filter_congr
     intro m hm
     obtain ⟨a,b,c⟩:=h m hm
     rw [a,b,hp]
     rcases c with c | c <;> simp [c]
   · rw [if_neg hp]
     refine filter_none fun m hm=>?_
     obtain ⟨a,b,c⟩:=h m hm
     rw [a]
     simp
     omega
 · unfold dnF
   rw [List.filter_filter]
   refine filter_none fun m hm=>?_
   obtain ⟨a,b,c⟩:=h m hm
   rcases c with c | c <;> simp [c]
theorem dn_sent {ms : List Msg} (h : ∀ m ∈ ms,m.fr = 0 ∧ (m.kind = 2 ∨ m.kind = 3)) (i p : Int) :
   upF i (ms.filter fun m=>m.fr == p && m.to == 0) = [] ∧ dnF i (ms.filter fun m=>m.fr == 0 && m.to == p) = ms.filter fun m=>m.to == p && m.id == i:=by
 constructor
 · unfold upF
   rw [List.filter_filter]
   refine filter_none fun m hm=>?_
   obtain ⟨a,c⟩:=h m hm
   rcases c with c | c <;> simp [c]
 · unfold dnF
   rw [List.filter_filter]
   apply List.filter_congr
   intro m hm
   obtain ⟨a,c⟩:=h m hm
   rcases c with c | c <;> simp [a,c,Bool.and_comm]
theorem upF_app (i : Int) (l r : List Msg) : upF i (l ++ r) = upF i l ++ upF i r := List.filter_append ..
theorem dnF_app (i : Int) (l r : List Msg) : dnF i (l ++ r) = dnF i l ++ dnF i r := List.filter_append ..
theorem GO.congr {g g' : Grd} {k : Int} (h : GO g k) (hv : g'.val k = g.val k) (ht : ∀ n,N3 n → g'.pt k n = g.pt k n ∧ g'.pu k n = g.pu k n ∧ g'.pd k n = g.pd k n) (he : g'.pe k = g.pe k) : GO g' k ∧ g'.phi k = g.phi k := by
 obtain ⟨hd,h⟩:=h
 refine ⟨⟨hd, ?_⟩, ?_⟩
 · have:=h.congr ht
   unfold VK at this ⊢
   rw [hv,he]
   exact this
 · unfold Grd.phi
   rw [he]
   exact phi_congr ht
theorem GO.mk {g : Grd} {k v : Int} (hv : g.val k = v) {tk : Int → Tok} {U D : Int → List Msg} {e : En} (h : ∃ hd,OInv (idG k) (fun o => IsDv o (idG k) v) tk U D e hd) (ht : ∀ n,N3 n → g.pt k n = tk n ∧ g.pu k n = U n ∧ g.pd k n = D n) (he : g.pe k = e) : GO g k ∧ g.phi k = phi tk U D e := by
 subst he hv
 obtain ⟨hd,h⟩:=h
 exact ⟨⟨hd,h.congr ht⟩,phi_congr ht⟩
theorem Bas.len {g : Grd} (h : Bas g) {n : Int} (hn : N3 n) : (g.tk n).length ≤ 9000 := by have := (h.tk n hn).len; omega
end
section
structure NI (ls : List Lk) : Prop where
 net : NtOK ls
 ms : ∀ f t, ∀ m ∈ Qn ls f t,MsOK m
 len : ∀ f t,(Qn ls f t).length ≤ 32
theorem GInv.ni {g : Grd} (h : GInv g) : NI g.ls := ⟨h.bas.net,h.bas.ms,fil_len h⟩
theorem NI.send {ls : List Lk} (h : NI ls) {ms : List Msg} (hm : ∀ m ∈ ms,MsOK m) (hl : ms.length ≤ 4000) : SendOK ls ms ∧ NtOK (sendF ls ms) ∧ (∀ f t,Qn (sendF ls ms) f t = Qn ls f t ++ ms.filter fun m => m.fr == f && m.to == t) ∧ ∀ f t, ∀ m ∈ Qn (sendF ls ms) f t,MsOK m := by
 obtain ⟨a,b,c⟩:=send_ok h.net (fun m hx=>⟨(hm m hx).fr,(hm m hx).to⟩) (fun f t=>by have:=h.len f t; omega)
 refine ⟨a,b,c,fun f t m hx=>?_⟩
 rw [c] at hx
 rcases List.mem_append.1 hx with hx | hx
 · exact h.ms f t m hx
 · exact hm m (List.mem_filter.1 hx).1
theorem NI.dlv {ls : List Lk} (h : NI ls) {f t : Int} {m : Msg} {r : List Msg} (hq : Qn ls f t = m :: r) : ∃ L,dlvN ls f t = (m,L,0) ∧ NI L ∧ ∀ f' t',Qn L f' t' = if f' = f ∧ t' = t then r else Qn ls f' t' := by
 obtain ⟨L,a,b,c⟩:=dlv_some h.net hq
 refine ⟨L,a,⟨b,fun f' t' x hx=>?_,fun f' t'=>?_⟩,c⟩
 · rw [c] at hx
   split at hx
   · exact h.ms f t x (by rw [hq]; simp [hx])
   · exact h.ms f' t' x hx
 · rw [c]
   split
   · have:=h.len f t
     rw [hq,List.length_cons] at this
     omega
   · exact h.len f' t'
theorem dl_up {g : Grd} {L : List Lk} {n : Int} {m : Msg} {r : List Msg} (hq : Qn g.ls n 0 = m :: r) (hL : ∀ f t,Qn L f t = if f = n ∧ t = 0 then r else Qn g.ls f t) {k : Int} (hid : m.id = idG k) (hk : m.kind = 1 ∨ m.kind = 4) :
   g.pu k n = m :: upF (idG k) r ∧ (∀ p,upF (idG k) (Qn L p 0) = Dir.up (g.pu k) n (upF (idG k) r) p) ∧ (∀ j p,j ≠ k → upF (idG j) (Qn L p 0) = g.pu j p) ∧ (∀ j p,dnF (idG j) (Qn L 0 p) = g.pd j p):=by
 refine ⟨?_,fun p=>?_,fun j p hj=>?_,fun j p=>?_⟩
 · unfold Grd.pu upF
   rw [hq,List.filter_cons,if_pos]
   rcases hk with e | e <;> simp [hid,e]
 · rw [hL]
   unfold Dir.up
   by_cases e : p = n
   · rw [if_pos ⟨e,rfl⟩,if_pos e]
   · rw [if_neg (fun c=>e c.1),if_neg e]; rfl
 · rw [hL]
   by_cases e : p = n
   · subst e
     rw [if_pos ⟨rfl,rfl⟩]
     unfold Grd.pu upF
     rw [hq,List.filter_cons,if_neg]
     have : idG k ≠ idG j:=fun c=>hj (idG_inj c).symm
     simp [hid,this]
   · rw [if_neg (fun c=>e c.1)]; rfl
 · rw [hL]
   by_cases e : 0 = n ∧ p = 0
   · obtain ⟨rfl,rfl⟩:=e
     rw [if_pos ⟨rfl,rfl⟩]
     unfold Grd.pd dnF
     rw [hq,List.filter_cons,if_neg]
     rcases hk with e | e <;> simp [e]
   · rw [if_neg e]; rfl
theorem dl_dn {g : Grd} {L : List Lk} {n : Int} {m : Msg} {r : List Msg} (hq : Qn g.ls 0 n = m :: r) (hL : ∀ f t,Qn L f t = if f = 0 ∧ t = n then r else Qn g.ls f t) {k : Int} (hid : m.id = idG k) (hk : m.kind = 2 ∨ m.kind = 3) :
   g.pd k n = m :: dnF (idG k) r ∧ (∀ p,dnF (idG k) (Qn L 0 p) = Dir.up (g.pd k) n (dnF (idG k) r) p) ∧ (∀ j p,j ≠ k → dnF (idG j) (Qn L 0 p) = g.pd j p) ∧ (∀ j p,upF (idG j) (Qn L p 0) = g.pu j p):=by
 refine ⟨?_,fun p=>?_,fun j p hj=>?_,fun j p=>?_⟩
 · unfold Grd.pd dnF
   rw [hq,List.filter_cons,if_pos]
   rcases hk with e | e <;> simp [hid,e]
 · rw [hL]
   unfold Dir.up
   by_cases e : p = n
   · rw [if_pos ⟨rfl,e⟩,if_pos e]
   · rw [if_neg (fun c=>e c.2),if_neg e]; rfl
 · rw [hL]
   by_cases e : p = n
   · subst e
     rw [if_pos ⟨rfl,rfl⟩]
     unfold Grd.pd dnF
     rw [hq,List.filter_cons,if_neg]
     have : idG k ≠ idG j:=fun c=>hj (idG_inj c).symm
     simp [hid,this]
   · rw [if_neg (fun c=>e c.2)]; rfl
 · rw [hL]
   by_cases e : p = 0 ∧ 0 = n
   · obtain ⟨rfl,rfl⟩:=e
     rw [if_pos ⟨rfl,rfl⟩]
     unfold Grd.pu upF
     rw [hq,List.filter_cons,if_neg]
     rcases hk with e | e <;> simp [e]
   · rw [if_neg e]; rfl
theorem Bas.upd {g : Grd} (h : Bas g) {n : Int} (hn : N3 n) {l : List Tok} (hl : TkOK l) {L : List Lk} (hL : NtOK L) (hm : ∀ f t, ∀ m ∈ Qn L f t,MsOK m) (v0 v1 : Int) : Bas ({ g.set n l with ls := L,v0 := v0,v1 := v1 } : Grd) := by
 have he:=(set_ls g n l).2.1
 refine ⟨fun m hm=>?_,hL,hm, ?_, ?_, ?_⟩
 · have:=set_tk g hn hm l
   show TkOK ((g.set n l).tk m)
   rw [this]
   split
   · exact hl
   · exact h.tk m hm
 · show validD 0 (g.set n l).es = true
   rw [he]; exact h.dv
 · show ∀ e ∈ (g.set n l).es,isK e.id
   rw [he]; exact h.di
 · show ∀ e ∈ (g.set n l).es,okE e
   rw [he]; exact h.de
theorem upd_pt (g : Grd) {n : Int} (hn : N3 n) (l : List Tok) (L : List Lk) (v0 v1 j : Int) {p : Int} (hp : N3 p) : ({ g.set n l with ls := L,v0 := v0,v1 := v1 } : Grd).pt j p = Dir.up (g.pt j) n (tkF l (idG j)) p := by
 show tkF ((g.set n l).tk p) (idG j) = _
 rw [set_tk g hn hp]
 unfold Dir.up
 split
 · rfl
 · rfl
theorem upd_pe (g : Grd) (n : Int) (l : List Tok) (L : List Lk) (v0 v1 j : Int) : ({ g.set n l with ls := L,v0 := v0,v1 := v1 } : Grd).pe j = g.pe j := by
 show fndD (idG j) (g.set n l).es = _
 rw [(set_ls g n l).2.1]
 rfl
def okT (id : Int) (t : Tok) : Prop := t = tok0 id ∨ fineR t = true
theorem gone_tok0 {id : Int} {t : Tok} (h : okT id t) (hg : t.gone = true) : t = tok0 id := by
 rcases h with h | h
 · exact h
 · obtain ⟨_,_,_,_,_,_,h⟩:=fineR_iff.1 h
   simp only [Tok.gone,Bool.and_eq_true,beq_iff_eq] at hg
   omega
theorem tkF_put' {t : Tok} {l : List Tok} (h : Srt l) {k : Int} (ht : okT (idG k) t) (hid : t.id = idG k) (j : Int) : tkF (put t l) (idG j) = if j = k then t else tkF l (idG j) := by
 rw [tkF_put h,hid]
 by_cases e : j = k
 · subst e
   rw [if_pos rfl,if_pos rfl]
   split
   · rename_i hg
     exact (gone_tok0 ht hg).symm
   · rfl
 · rw [if_neg (fun c=>e (idG_inj c)),if_neg e]
theorem put_okT {t : Tok} {l : List Tok} (h : TkOK l) {k : Int} (hk : N2 k) (ht : okT (idG k) t) (hid : t.id = idG k) : TkOK (put t l) :=
 put_ok' h (by
   rcases ht with rfl | h
   · exact .inl rfl
   · exact .inr h) (by rw [hid]; exact isK_N2 hk)
theorem pt_ok {g : Grd} (h : Bas g) {n : Int} (hn : N3 n) (k : Int) : okT (idG k) (g.pt k n) := tkF_fine (h.tk n hn) _
theorem pt_id (g : Grd) (n k : Int) : (g.pt k n).id = idG k := tkF_id _ _
noncomputable def Grd.Phi (g : Grd) : Nat := g.phi 0 + g.phi 1
theorem other {k j : Int} (hk : N2 k) (hj : N2 j) (hne : j ≠ k) : (k = 0 ∧ j = 1) ∨ (k = 1 ∧ j = 0) := by
 rcases hk with rfl | rfl <;> rcases hj with rfl | rfl <;> simp at hne ⊢
theorem Phi_le {g g' : Grd} {k : Int} (hk : N2 k) (h : ∀ j,N2 j → j ≠ k → g'.phi j = g.phi j) (d : Nat) (hd : g'.phi k + d ≤ g.phi k) : g'.Phi + d ≤ g.Phi := by
 unfold Grd.Phi
 rcases hk with rfl | rfl
 · rw [h 1 (.inr rfl) (by decide)]; omega
 · rw [h 0 (.inl rfl) (by decide)]; omega
theorem GInv.step1 {g : Grd} (h : GInv g) {k : Int} (hk : N2 k) {n : Int} (hn : N3 n) {t : Tok} (hid : t.id = idG k) (hf : okT (idG k) t) {L : List Lk} (hL : NI L) {U D : Int → List Msg}
   (hU : ∀ p,upF (idG k) (Qn L p 0) = U p) (hD : ∀ p,dnF (idG k) (Qn L 0 p) = D p) (hUj : ∀ j p,j ≠ k → upF (idG j) (Qn L p 0) = g.pu j p) (hDj : ∀ j p,j ≠ k → dnF (idG j) (Qn L 0 p) = g.pd j p)
   {ms : List Msg} (hms : ∀ m ∈ ms,m.id = idG k ∧ m.fr = n ∧ m.to = 0 ∧ (m.kind = 1 ∨ m.kind = 4)) (hlen : ms.length ≤ 4000)
   (ho : ∃ hd,OInv (idG k) (VK g k) (Dir.up (g.pt k) n t) (Dir.up U n (U n ++ ms)) D (g.pe k) hd) :
   SendOK L ms ∧ GInv ({ g.set n (put t (g.tk n)) with ls:=sendF L ms } : Grd) ∧ ({ g.set n (put t (g.tk n)) with ls:=sendF L ms } : Grd).phi k = phi (Dir.up (g.pt k) n t) (Dir.up U n (U n ++ ms)) D (g.pe k) ∧ ∀ j,N2 j → j ≠ k → ({ g.set n (put t (g.tk n)) with ls:=sendF L ms } : Grd).phi j = g.phi j:=by
 have hmo : ∀ m ∈ ms,MsOK m:=fun m hm=>by
   obtain ⟨a,b,c,d⟩:=hms m hm
   exact ⟨by rw [a]; exact isK_N2 hk,by rw [b]; exact hn,by rw [c]; exact .inl rfl, .inl ⟨d,c⟩⟩
 obtain ⟨s1,s2,s3,s4⟩:=hL.send hmo hlen
 have hT:=h.bas.tk n hn
 obtain ⟨-,e0,e1,e2⟩:=set_ls g n (put t (g.tk n))
 have hb:=h.bas.upd hn (put_okT hT hk hf hid) s2 s4 (g.set n (put t (g.tk n))).v0 (g.set n (put t (g.tk n))).v1
 have up:=up_sent (n:=n) (ms:=ms) (fun m hm=>(hms m hm).2)
 have pt : ∀ j p,N3 p → ({ g.set n (put t (g.tk n)) with ls:=sendF L ms } : Grd).pt j p = if j = k then Dir.up (g.pt k) n t p else g.pt j p:=fun j p hp=>by
   rw [upd_pt g hn (put t (g.tk n)) (sendF L ms) _ _ j hp,tkF_put' hT.srt hf hid]
   split
   · rename_i e; subst e; rfl
   · unfold Dir.up
     split
     · rename_i e; subst e; rfl
     · rfl
 have pu : ∀ j p,N3 p → ({ g.set n (put t (g.tk n)) with ls:=sendF L ms } : Grd).pu j p = if j = k then Dir.up U n (U n ++ ms) p else g.pu j p:=fun j p hp=>by
   show upF (idG j) (Qn (sendF L ms) p 0) = _
   rw [s3,upF_app,(up _ _).1]
   by_cases e : j = k
   · subst e
     rw [if_pos rfl,hU]
     unfold Dir.up
     by_cases e2 : p = n
     · subst e2
       rw [if_pos rfl,if_pos rfl,List.filter_eq_self.2 (fun m hm=>by simp [(hms m hm).1])]
     · rw [if_neg e2,if_neg e2,List.append_nil]
   · rw [if_neg e,hUj j p e]
     have : (ms.filter fun m=>m.id == idG j) = []:=filter_none fun m hm=>by
       have c : idG k ≠ idG j:=fun c=>e (idG_inj c).symm
       simp [(hms m hm).1,c]
     rw [this,ite_self,List.append_nil]
 have pd : ∀ j p,N3 p → ({ g.set n (put t (g.tk n)) with ls:=sendF L ms } : Grd).pd j p = if j = k then D p else g.pd j p:=fun j p hp=>by
   show dnF (idG j) (Qn (sendF L ms) 0 p) = _
   rw [s3,dnF_app,(up _ _).2,List.append_nil]
   by_cases e : j = k
   · subst e
     rw [if_pos rfl,hD]
   · rw [if_neg e,hDj j p e]
 have pe : ∀ j,({ g.set n (put t (g.tk n)) with ls:=sendF L ms } : Grd).pe j = g.pe j:=fun j=>upd_pe g n _ _ _ _ j
 have val : ∀ j,({ g.set n (put t (g.tk n)) with ls:=sendF L ms } : Grd).val j = g.val j:=fun j=>by
   show (if j = 0 then (g.set n (put t (g.tk n))).v0 else (g.set n (put t (g.tk n))).v1) = _
   rw [e1,e2]; rfl
 have key:=GO.mk (val k) ho (fun p hp=>⟨by rw [pt k p hp,if_pos rfl],by rw [pu k p hp,if_pos rfl],by rw [pd k p hp,if_pos rfl]⟩) (pe k)
 have oth : ∀ j,N2 j → j ≠ k → GO ({ g.set n (put t (g.tk n)) with ls:=sendF L ms } : Grd) j ∧ ({ g.set n (put t (g.tk n)) with ls:=sendF L ms } : Grd).phi j = g.phi j:=fun j hj hne =>
   (h.ob j hj).congr (val j) (fun p hp=>⟨by rw [pt j p hp,if_neg hne],by rw [pu j p hp,if_neg hne],by rw [pd j p hp,if_neg hne]⟩) (pe j)
 refine ⟨s1,⟨hb,fun j hj=>?_⟩,key.2,fun j hj hne=>(oth j hj hne).2⟩
 by_cases e : j = k
 · subst e; exact key.1
 · exact (oth j hj e).1
end
section
theorem up_self {α : Type} (f : Int → α) (n : Int) : Dir.up f n (f n) = f := by
 funext k
 unfold Dir.up
 split
 · rename_i e; rw [e]
 · rfl
theorem oid_dv {id n : Int} {h1 : (Lit.int .u64 id).wf = true} {h2 : (Lit.int .i64 n).wf = true} : oid (dvO id n h1 h2) = id := by
 obtain ⟨r,h⟩:=oid_eq (dvO id n h1 h2)
 have h : dvN id n = .int .u64 (oid (dvO id n h1 h2)) :: r:=h
 unfold dvN at h
 simp only [List.cons.injEq,AV.int.injEq,true_and] at h
 exact h.1.symm
theorem isDv_oid {o : Ob} {id n : Int} (h : IsDv o id n) : oid o = id := by
 obtain ⟨h1,h2,rfl⟩:=h
 exact oid_dv
theorem isDv_pz {o : Ob} {id n : Int} (h : IsDv o id n) : Pz id o := by simp [Pz,isDv_oid h]
theorem gsetL {g : Grd} (n : Int) (l : List Tok) : ({ g.set n l with ls := g.ls } : Grd) = g.set n l := by
 unfold Grd.set
 split
 · rfl
 · split <;> rfl
theorem sent_set (g : Grd) (n : Int) (l : List Tok) (ms : List Msg) : (g.set n l).sent ms = ({ g.set n l with ls := sendF g.ls ms } : Grd) := by
 unfold Grd.sent
 rw [(set_ls g n l).1]
theorem fin_want {t : Tok} {id m : Int} (h : okT id t) (h0 : id ≠ 0) (hm : m = 1 ∨ m = 2) (hl : t.mode < m) : fineR { t with want := m } = true := by
 refine fineR_iff.2 ?_
 rcases h with rfl | h
 · exact ⟨h0, .inl rfl, .inr ⟨hm,hl⟩, .inl zO_zOb,by simp [tok0],by simp [tok0], .inr (by show m ≠ 0; omega)⟩
 · obtain ⟨f1,f2,f3,f4,f5,f6,f7⟩:=fineR_iff.1 h
   exact ⟨f1,f2, .inr ⟨hm,hl⟩,f4,f5,f6, .inr (by show m ≠ 0; omega)⟩
theorem fin_held {t : Tok} {id : Int} (h : okT id t) (h0 : t.mode ≠ 0) : fineR t = true := by
 rcases h with rfl | h
 · exact absurd rfl h0
 · exact h
theorem fin_pin {t : Tok} {id : Int} (h : okT id t) (h0 : t.mode ≠ 0) : fineR { t with pin := true } = true := by
 obtain ⟨f1,f2,f3,f4,f5,f6,f7⟩:=fineR_iff.1 (fin_held h h0)
 exact fineR_iff.2 ⟨f1,f2,f3,f4,fun _=>h0,fun _=>rfl,f7⟩
theorem fin_due {t : Tok} {id : Int} (h : okT id t) (h0 : t.mode ≠ 0) (hp : t.pin = true) : fineR { t with due := true } = true := by
 obtain ⟨f1,f2,f3,f4,f5,f6,f7⟩:=fineR_iff.1 (fin_held h h0)
 exact fineR_iff.2 ⟨f1,f2,f3,f4,f5,fun _=>hp,f7⟩
theorem fin_obj {t : Tok} {id : Int} (h : okT id t) (h0 : t.mode ≠ 0) {o : Ob} (ho : oid o = t.id) : fineR { t with obj := o } = true := by
 obtain ⟨f1,f2,f3,f4,f5,f6,f7⟩:=fineR_iff.1 (fin_held h h0)
 exact fineR_iff.2 ⟨f1,f2,f3, .inr ⟨ho,h0⟩,f5,f6,f7⟩
theorem fin_grt {t : Tok} {id : Int} (h : okT id t) (h0 : id ≠ 0) {w : Int} (hw : w = 1 ∨ w = 2) {o : Ob} (ho : oid o = t.id) : fineR { t with mode := w,obj := o,want := 0 } = true := by
 have hw0 : w ≠ 0:=by omega
 refine fineR_iff.2 ?_
 rcases h with rfl | h
 · exact ⟨h0, .inr hw, .inl rfl, .inr ⟨ho,hw0⟩,by simp [tok0],by simp [tok0], .inl hw0⟩
 · obtain ⟨f1,f2,f3,f4,f5,f6,f7⟩:=fineR_iff.1 h
   exact ⟨f1, .inr hw, .inl rfl, .inr ⟨ho,hw0⟩,fun _=>hw0,f6, .inl hw0⟩
theorem fin_bck {t : Tok} {id : Int} (h : okT id t) (hid : t.id = id) : okT id (bckT t) := by
 rcases h with rfl | h
 · exact .inl rfl
 · by_cases hw : t.want = 0
   · left
     unfold bckT tok0
     rw [hw,hid]
   · obtain ⟨f1,f2,f3,f4,f5,f6,f7⟩:=fineR_iff.1 h
     refine .inr (fineR_iff.2 ⟨f1, .inl rfl, .inr ?_, .inl zO_zOb,by simp [bckT],by simp [bckT], .inr hw⟩)
     rcases f3 with f3 | ⟨f3,f4⟩
     · exact absurd f3 hw
     · exact ⟨f3,by show (0 : Int) < t.want; omega⟩
theorem GInv.val {g : Grd} (h : GInv g) {n : Int} (hn : N3 n) : valid n (g.tk n) = true := (h.bas.tk n hn).valid (N3_ok hn)
theorem GInv.want {g : Grd} (h : GInv g) {n k m : Int} (hn : N3 n) (hk : N2 k) (hm : m = 1 ∨ m = 2) (hl9 : (g.tk n).length ≤ 9000) : ∃ l ms,wnt ⟨n,g.tk n,hl9⟩ (idG k) m 0 = (n,l,ms,0) ∧ ms.length ≤ 9000 ∧ SendOK g.ls ms ∧ GInv ({ g.set n l with ls := sendF g.ls ms } : Grd) := by
 have h0:=idG_ne0 hk
 have hmo : okM m = true:=by rcases hm with rfl | rfl <;> rfl
 have same : ({ g.set n (g.tk n) with ls:=sendF g.ls [] } : Grd) = g:=by rw [gset_self]; rfl
 unfold wnt
 rw [if_neg (by simp [h.val hn]),if_neg h0,if_neg (by simp [hmo]),if_neg (by decide)]
 show ∃ l ms,(if m ≤ (g.pt k n).mode then (n,g.tk n,[],0) else if (g.pt k n).want ≠ 0 then (n,g.tk n,[],0) else (n,put { g.pt k n with want:=m } (g.tk n),[askM n (idG k) m],0)) = (n,l,ms,(0 : Int)) ∧ _
 split
 · exact ⟨g.tk n,[],rfl,by simp,trivial,by rw [same]; exact h⟩
 · split
   · exact ⟨g.tk n,[],rfl,by simp,trivial,by rw [same]; exact h⟩
   · rename_i hl hw
     obtain ⟨hd,hi⟩:=h.ob k hk
     have hw0 : (g.pt k n).want = 0:=Classical.not_not.1 hw
     have ho:=hi.want hn hw0 hm (by omega)
     rw [up_self (g.pd k)] at ho
     obtain ⟨a,b,_⟩:=h.step1 hk hn (t:={ g.pt k n with want:=m }) (pt_id g n k) (.inr (fin_want (pt_ok h.bas hn k) h0 hm (by omega))) h.ni (U:=g.pu k) (D:=g.pd k) (fun _=>rfl) (fun _=>rfl) (fun _ _ _=>rfl) (fun _ _ _=>rfl) (ms:=[askM n (idG k) m]) (by simp [askM]) (by simp) ⟨hd,ho⟩
     exact ⟨_,_,rfl,by simp,a,b⟩
theorem GInv.pin {g : Grd} (h : GInv g) {n k : Int} (hn : N3 n) (hk : N2 k) (hl9 : (g.tk n).length ≤ 9000) : pinL ⟨n,g.tk n,hl9⟩ (idG k) 1 = (0,[],6) ∨ ∃ l,pinL ⟨n,g.tk n,hl9⟩ (idG k) 1 = (n,l,0) ∧ GInv (g.set n l) := by
 unfold pinL
 rw [if_neg (by simp [h.val hn]),if_neg (by decide)]
 show (if (g.pt k n).mode < 1 then ((0 : Int),([] : List Tok),(6 : Int)) else (n,put { g.pt k n with pin:=true } (g.tk n),0)) = _ ∨ ∃ l,(if (g.pt k n).mode < 1 then (0,[],6) else (n,put { g.pt k n with pin:=true } (g.tk n),0)) = _ ∧ _
 split
 · exact .inl rfl
 · rename_i hl
   obtain ⟨hd,hi⟩:=h.ob k hk
   have hm0 : (g.pt k n).mode ≠ 0:=by omega
   have ho:=hi.node hn (t:={ g.pt k n with pin:=true }) (u:=g.pu k n) (d:=g.pd k n) (hi.nd n hn) (hi.ob n hn)
   rw [up_self (g.pd k)] at ho
   obtain ⟨a,b,_⟩:=h.step1 hk hn (t:={ g.pt k n with pin:=true }) (pt_id g n k) (.inr (fin_pin (pt_ok h.bas hn k) hm0)) h.ni (U:=g.pu k) (D:=g.pd k) (fun _=>rfl) (fun _=>rfl) (fun _ _ _=>rfl) (fun _ _ _=>rfl) (ms:=[]) (by simp) (by simp) ⟨hd,by rw [List.append_nil]; exact ho⟩
   refine .inr ⟨_,rfl, ?_⟩
   rw [← gsetL]
   exact b
def Grd.inc (g : Grd) (k : Int) : Grd := if k = 0 then { g with v0 := g.v0 + 1 } else { g with v1 := g.v1 + 1 }
theorem GInv.puts {g : Grd} (h : GInv g) {n k : Int} (hn : N3 n) (hk : N2 k) (hm : (g.pt k n).mode = 2) (hl9 : (g.tk n).length ≤ 9000) (w1 : (Lit.int .u64 (idG k)).wf = true) (w2 : (Lit.int .i64 (g.val k + 1)).wf = true) :
   ∃ l,putoL ⟨n,g.tk n,hl9⟩ (idG k) (dvO (idG k) (g.val k + 1) w1 w2) = (n,l,0) ∧ GInv ((g.set n l).inc k):=by
 unfold putoL
 rw [if_neg (by simp [h.val hn])]
 show ∃ l,(if (g.pt k n).mode = 2 then if zO? (dvO (idG k) (g.val k + 1) w1 w2) = false ∧ oid (dvO (idG k) (g.val k + 1) w1 w2) ≠ idG k then ((0 : Int),([] : List Tok),(10 : Int)) else (n,put { g.pt k n with obj:=dvO (idG k) (g.val k + 1) w1 w2 } (g.tk n),0) else (0,[],8)) = (n,l,0) ∧ _
 rw [if_pos hm,if_neg (fun c=>c.2 oid_dv)]
 refine ⟨_,rfl, ?_⟩
 have hm0 : (g.pt k n).mode ≠ 0:=by omega
 have hf : okT (idG k) { g.pt k n with obj:=dvO (idG k) (g.val k + 1) w1 w2 } := .inr (fin_obj (pt_ok h.bas hn k) hm0 (by rw [oid_dv]; exact (pt_id g n k).symm))
 have hT:=h.bas.tk n hn
 generalize hl : put { g.pt k n with obj:=dvO (idG k) (g.val k + 1) w1 w2 } (g.tk n) = l
 have hlT : TkOK l:=by rw [← hl]; exact put_okT hT hk hf (pt_id g n k)
 have hlF : ∀ j,tkF l (idG j) = if j = k then { g.pt k n with obj:=dvO (idG k) (g.val k + 1) w1 w2 } else tkF (g.tk n) (idG j):=fun j=>by rw [← hl]; exact tkF_put' hT.srt hf (pt_id g n k) j
 have e : (g.set n l).inc k = ({ g.set n l with ls:=g.ls,v0:=if k = 0 then g.v0 + 1 else g.v0,v1:=if k = 0 then g.v1 else g.v1 + 1 } : Grd):=by
   obtain ⟨c1,c2,c3,c4⟩:=set_ls g n l
   unfold Grd.inc
   rcases hk with rfl | rfl
   · rw [if_pos rfl,if_pos rfl,if_pos rfl, ← c1, ← c3, ← c4]
   · rw [if_neg (by decide),if_neg (by decide),if_neg (by decide), ← c1, ← c3, ← c4]
 rw [e]
 have hb:=h.bas.upd hn hlT h.bas.net h.bas.ms (if k = 0 then g.v0 + 1 else g.v0) (if k = 0 then g.v1 else g.v1 + 1)
 refine ⟨hb,fun j hj=>?_⟩
 have pt:=fun p hp=>upd_pt g hn l g.ls (if k = 0 then g.v0 + 1 else g.v0) (if k = 0 then g.v1 else g.v1 + 1) j (p:=p) hp
 have pe:=upd_pe g n l g.ls (if k = 0 then g.v0 + 1 else g.v0) (if k = 0 then g.v1 else g.v1 + 1) j
 by_cases hjk : j = k
 · subst hjk
   obtain ⟨hd,hi⟩:=h.ob j hj
   have ho:=hi.put hn hm (fun o=>IsDv o (idG j) (g.val j + 1)) ⟨w1,w2,rfl⟩
   have:=hlF j
   rw [if_pos rfl] at this
   rw [this] at pt
   exact (GO.mk (by
     rcases hj with rfl | rfl
     · rfl
     · rfl) ⟨hd,ho⟩ (fun p hp=>⟨pt p hp,rfl,rfl⟩) pe).1
 · have:=hlF j
   rw [if_neg hjk] at this
   rw [this] at pt
   refine (GO.congr (g':=({ g.set n l with ls:=g.ls,v0:=if k = 0 then g.v0 + 1 else g.v0,v1:=if k = 0 then g.v1 else g.v1 + 1 } : Grd)) (h.ob j hj) ?_ (fun p hp=>⟨?_,rfl,rfl⟩) pe).1
   · rcases other hk hj hjk with ⟨rfl,rfl⟩ | ⟨rfl,rfl⟩
     · rfl
     · rfl
   · rw [pt p hp]
     exact congrFun (up_self (g.pt j) n) p
theorem unp_tk {g : Grd} {n p : Int} (hn : N3 n) (hp : N3 p) : (g.unpin n).tk p = if p = n then unpL (g.tk n) else g.tk p := set_tk g hn hp _
theorem phi_unpin {g : Grd} {j n : Int} (hn : N3 n) (hd : (g.pt j n).due = false) : phi (Dir.up (g.pt j) n (unpinT (g.pt j n))) (g.pu j) (g.pd j) (g.pe j) = phi (g.pt j) (g.pu j) (g.pd j) (g.pe j) := by
 have:=phi_node (tk:=g.pt j) (U:=g.pu j) (D:=g.pd j) (e:=g.pe j) hn (unpinT (g.pt j n)) (g.pu j n) (g.pd j n)
 rw [up_self,up_self] at this
 unfold nc at this
 have e1 : (unpinT (g.pt j n)).due = (g.pt j n).due:=rfl
 rw [e1] at this
 omega
theorem GInv.unpin {g : Grd} (h : GInv g) {n : Int} (hn : N3 n) : SendOK g.ls (upM n (g.tk n)) ∧ GInv (g.unpin n) ∧ (g.unpin n).Phi ≤ g.Phi ∧ (∀ f t,Qn (g.unpin n).ls f t = Qn g.ls f t ++ (upM n (g.tk n)).filter fun m => m.fr == f && m.to == t) ∧ (g.unpin n).v0 = g.v0 ∧ (g.unpin n).v1 = g.v1 := by
 have hT:=h.bas.tk n hn
 have hmm:=fun m hm=>upM_mem (n:=n) hT (m:=m) hm
 have hmo : ∀ m ∈ upM n (g.tk n),MsOK m:=fun m hm=>by
   obtain ⟨a,b,c,d⟩:=hmm m hm
   exact ⟨d,by rw [a]; exact hn,by rw [b]; exact .inl rfl, .inl ⟨.inr c,b⟩⟩
 obtain ⟨s1,s2,s3,s4⟩:=h.ni.send hmo (by have:=upM_len n (g.tk n); have:=hT.len; omega)
 obtain ⟨-,e0,e1,e2⟩:=set_ls g n (unpL (g.tk n))
 have e : g.unpin n = ({ g.set n (unpL (g.tk n)) with ls:=sendF g.ls (upM n (g.tk n)) } : Grd):=sent_set g n _ _
 rw [e]
 have hb:=h.bas.upd hn (unpL_ok hT) s2 s4 (g.set n (unpL (g.tk n))).v0 (g.set n (unpL (g.tk n))).v1
 have up:=up_sent (n:=n) (ms:=upM n (g.tk n)) (fun m hm=>⟨(hmm m hm).1,(hmm m hm).2.1, .inr (hmm m hm).2.2.1⟩)
 have key : ∀ j,N2 j → GO ({ g.set n (unpL (g.tk n)) with ls:=sendF g.ls (upM n (g.tk n)) } : Grd) j ∧ ({ g.set n (unpL (g.tk n)) with ls:=sendF g.ls (upM n (g.tk n)) } : Grd).phi j ≤ g.phi j:=fun j hj=>by
   have pt:=fun p hp=>upd_pt g hn (unpL (g.tk n)) (sendF g.ls (upM n (g.tk n))) (g.set n (unpL (g.tk n))).v0 (g.set n (unpL (g.tk n))).v1 j (p:=p) hp
   rw [fnd_unp _ hT.srt] at pt
   have pe:=upd_pe g n (unpL (g.tk n)) (sendF g.ls (upM n (g.tk n))) (g.set n (unpL (g.tk n))).v0 (g.set n (unpL (g.tk n))).v1 j
   have fil:=upM_fil n (idG j) hT.srt
   have pu : ∀ p,({ g.set n (unpL (g.tk n)) with ls:=sendF g.ls (upM n (g.tk n)) } : Grd).pu j p = g.pu j p ++ if p = n then (upM n (g.tk n)).filter (fun m=>m.id == idG j) else []:=fun p=>by
     show upF (idG j) (Qn (sendF g.ls (upM n (g.tk n))) p 0) = _
     rw [s3,upF_app,(up _ _).1]
     rfl
   have pd : ∀ p,({ g.set n (unpL (g.tk n)) with ls:=sendF g.ls (upM n (g.tk n)) } : Grd).pd j p = g.pd j p:=fun p=>by
     show dnF (idG j) (Qn (sendF g.ls (upM n (g.tk n))) 0 p) = _
     rw [s3,dnF_app,(up _ _).2,List.append_nil]
     rfl
   have val : ({ g.set n (unpL (g.tk n)) with ls:=sendF g.ls (upM n (g.tk n)) } : Grd).val j = g.val j:=by
     show (if j = 0 then (g.set n (unpL (g.tk n))).v0 else (g.set n (unpL (g.tk n))).v1) = _
     rw [e1,e2]; rfl
   obtain ⟨hd,hi⟩:=h.ob j hj
   change (upM n (g.tk n)).filter _ = if (g.pt j n).due = true then [bckM n (g.pt j n) 0] else [] at fil
   change ∀ p,N3 p → _ = Dir.up (g.pt j) n (if (g.pt j n).due = true then bckT (g.pt j n) else unpinT (g.pt j n)) p at pt
   by_cases hdu : (g.pt j n).due = true
   · rw [if_pos hdu] at pt fil
     rw [fil] at pu
     obtain ⟨o1,o2⟩:=hi.unpin hn (pt_id g n j) hdu
     rw [up_self (g.pd j)] at o1 o2
     obtain ⟨k1,k2⟩:=GO.mk val ⟨hd,o1⟩ (fun p hp=>⟨pt p hp,by
       rw [pu]
       unfold Dir.up
       by_cases c : p = n
       · subst c; rw [if_pos rfl,if_pos rfl]
       · rw [if_neg c,if_neg c,List.append_nil],pd p⟩) pe
     exact ⟨k1,by rw [k2]; exact o2⟩
   · rw [if_neg hdu] at pt fil
     rw [fil] at pu
     have o1:=hi.node hn (t:=unpinT (g.pt j n)) (u:=g.pu j n) (d:=g.pd j n) (hi.nd n hn) (hi.ob n hn)
     rw [up_self (g.pd j),up_self (g.pu j)] at o1
     obtain ⟨k1,k2⟩:=GO.mk val ⟨hd,o1⟩ (fun p hp=>⟨pt p hp,by rw [pu,ite_self,List.append_nil],pd p⟩) pe
     refine ⟨k1, ?_⟩
     rw [k2,phi_unpin hn (by simpa using hdu)]
     exact Nat.le_refl _
 refine ⟨s1,⟨hb,fun j hj=>(key j hj).1⟩, ?_,s3,e1,e2⟩
 have k0:=(key 0 (.inl rfl)).2
 have k1:=(key 1 (.inr rfl)).2
 unfold Grd.Phi
 omega
end
section
theorem str_to {V : Ob → Prop} {id : Int} : ∀ {ms : List (Dir.Mg Ob)} {h : Dir.Hd},Dir.Str V h ms → h.mode 3 = 0 → h.asked 3 = 0 → ∀ d ∈ ms,N3 (mgM 0 id d).to
 | [],h,_,_,_=>fun d hd=>by cases hd
 | .rev to :: r,h,hs,h3,a3=>fun d hd=>by
   obtain ⟨x1,x2,x3,x4⟩:=hs
   rcases List.mem_cons.1 hd with rfl | hd
   · exact M3_N3.1 (Dir.N4_M3 x1 fun e1=>x2 (by have e1 : to = 3:=e1; rw [e1]; exact h3))
   · exact str_to (h:={ h with demand:=Dir.up h.demand to true }) x4 h3 a3 d hd
 | .grant to m o :: r,h,hs,h3,a3=>fun d hd=>by
   obtain ⟨x1,x2,x3,x4,x5,x6,x7⟩:=hs
   have hne : to ≠ 3:=fun e1=>by rw [e1,a3] at x3; omega
   rcases List.mem_cons.1 hd with rfl | hd
   · exact M3_N3.1 (Dir.N4_M3 x1 hne)
   · exact str_to (h:={ h with mode:=Dir.up h.mode to m,asked:=Dir.up h.asked to 0 }) x7 (by show Dir.up h.mode to m 3 = 0; rw [Dir.up_ne _ _ (Ne.symm hne)]; exact h3) (by show Dir.up h.asked to 0 3 = 0; rw [Dir.up_ne _ _ (Ne.symm hne)]; exact a3) d hd
theorem len_mgsC : ∀ ms : List (Dir.Mg Ob),ms.length ≤ Dir.mgsC ms
 | []=>Nat.le_refl _
 | .rev to :: r=>by have:=len_mgsC r; simp only [List.length_cons,Dir.mgsC,Dir.mgC]; omega
 | .grant to m o :: r=>by have:=len_mgsC r; simp only [List.length_cons,Dir.mgsC,Dir.mgC]; omega
theorem di_pz {V : Ob → Prop} {id : Int} {e : En} {h : Dir.Hd} (hi : Dir.DI V zOb e h) (hV : ∀ o,V o → Pz id o) : Dir.Inv (Pz id) zOb e h := by
 have p:=hi.inv.pre
 refine ⟨⟨p.m2,p.m1,p.m0,p.owr,p.rdr,p.asc,p.one,p.obz, ?_,p.q1,p.q2,p.q3⟩,hi.inv.dem,hi.inv.wt⟩
 by_cases ho : e.owner = -1
 · exact hV _ (hi.val ho)
 · rw [p.obz ho]
   exact pz_zob id
theorem askL_eq {es : List En} {h1 : es.length ≤ 9000} {h2 : ∀ e ∈ es,okE e} {id : Int} (h0 : id ≠ 0) (hv : validD 0 es = true) {h : Dir.Hd} (hi : Dir.Inv (Pz id) zOb (fndD id es) h) {n m : Int} (hn : Dir.N4 n) (ha : h.asked n = 0) (hm : m = 1 ∨ m = 2) (hlt : h.mode n < m) :
   askL ⟨0,es,h1,h2⟩ id n m = (0,putD (Dir.askE zOb (fndD id es) n m).2 es,(Dir.askE zOb (fndD id es) n m).1.map (mgM 0 id),0):=by
 have e1 : okN n = true:=by unfold Dir.N4 at hn; simp [okN]; omega
 have e2 : okM m = true:=by simpa [okM] using hm
 have e3 : (id == 0) = false:=by simpa using h0
 have e4 : ((fndD id es).owner == n) = false:=by
   simp only [beq_eq_false_iff_ne,ne_eq]
   intro h1
   have:=(mode_of hi hn).1 h1
   omega
 have e5 : (m == 1 && decide (n ∈ (fndD id es).readers)) = false:=by
   simp only [Bool.and_eq_false_iff,beq_eq_false_iff_ne,decide_eq_false_iff_not]
   by_cases h1 : m = 1
   · right
     intro h2
     have:=(mode_of hi hn).2 h2
     omega
   · exact .inl h1
 have e6 : ((fndD id es).queue.any fun p=>p.1 == n) = false:=by
   rw [List.any_eq_false]
   intro p hp h1
   obtain ⟨_,d2,d3,_⟩:=hi.pre.q1 p hp
   have h1 : p.1 = n:=by simpa using h1
   rw [h1] at d2
   omega
 unfold askL
 rw [if_neg (by simp [hv]),if_neg (by simp [e1,e2,e3])]
 dsimp only
 rw [if_neg (by simp [e4,e5,e6])]
 simp only [goM,Dir.askE,fnd_id]
theorem retL_eq {es : List En} {h1 : es.length ≤ 9000} {h2 : ∀ e ∈ es,okE e} {id : Int} (h0 : id ≠ 0) (hv : validD 0 es = true) {h : Dir.Hd} (hi : Dir.Inv (Pz id) zOb (fndD id es) h) {n : Int} (hn : Dir.N4 n) (hdm : h.demand n = true) {o : Ob} (ho : h.mode n = 2 → Pz id o) :
   retL ⟨0,es,h1,h2⟩ id n o = (0,putD (Dir.retE zOb (fndD id es) n o).2 es,(Dir.retE zOb (fndD id es) n o).1.map (mgM 0 id),0):=by
 have hrd : Dir.retE zOb (fndD id es) n o = Dir.goOn zOb (retD (fndD id es) n o):=by
   unfold Dir.retE retD
   split <;> rfl
 have e1 : okN n = true:=by unfold Dir.N4 at hn; simp [okN]; omega
 have e3 : (id == 0) = false:=by simpa using h0
 have hw:=(hi.dem n hn).1 hdm
 have e4 : ((fndD id es).owner != n && !decide (n ∈ (fndD id es).readers)) = false:=by
   rcases (inv_wt hi).1 n hw with ⟨_,h | h⟩
   · simp [h]
   · simp [h]
 have e5 : ((fndD id es).owner == n && !(oid o == id || zO? o)) = false:=by
   by_cases c : (fndD id es).owner = n
   · have:=ho ((mode_of hi hn).1 c)
     unfold Pz at this
     rw [this]
     simp
   · simp [c]
 unfold retL
 rw [if_neg (by simp [hv])]
 dsimp only
 rw [if_neg (by simp only [e1,e3,e4]; decide),if_neg (by rw [e5]; decide)]
 rw [hrd]
 have hi2 : (retD (fndD id es) n o).id = id:=by
   unfold retD
   split <;> exact fnd_id _ _
 simp only [goM,hi2]
theorem GInv.home {g : Grd} (h : GInv g) {k : Int} (hk : N2 k) {L : List Lk} (hL : NI L) {U : Int → List Msg} (hU : ∀ p,upF (idG k) (Qn L p 0) = U p) (hUj : ∀ j p,j ≠ k → upF (idG j) (Qn L p 0) = g.pu j p) (hD : ∀ j p,dnF (idG j) (Qn L 0 p) = g.pd j p)
   {x : En} {dms : List (Dir.Mg Ob)} {hd : Dir.Hd} (hlen : dms.length ≤ 4000) (hto : ∀ d ∈ dms,N3 (mgM 0 (idG k) d).to) (ho : OInv (idG k) (VK g k) (g.pt k) U (fun p=>g.pd k p ++ toN (idG k) dms p) x hd) :
   SendOK L (dms.map (mgM 0 (idG k))) ∧ GInv ({ g with es:=putD x g.es,ls:=sendF L (dms.map (mgM 0 (idG k))) } : Grd) ∧ ({ g with es:=putD x g.es,ls:=sendF L (dms.map (mgM 0 (idG k))) } : Grd).phi k = phi (g.pt k) U (fun p=>g.pd k p ++ toN (idG k) dms p) x ∧ ∀ j,N2 j → j ≠ k → ({ g with es:=putD x g.es,ls:=sendF L (dms.map (mgM 0 (idG k))) } : Grd).phi j = g.phi j:=by
 have hmm : ∀ m ∈ dms.map (mgM 0 (idG k)),m.id = idG k ∧ m.fr = 0 ∧ N3 m.to ∧ (m.kind = 2 ∨ m.kind = 3):=fun m hm=>by
   obtain ⟨d,hd,rfl⟩:=List.mem_map.1 hm
   have:=hto d hd
   cases d with
   | rev to=>exact ⟨rfl,rfl,this, .inr rfl⟩
   | grant to m o=>exact ⟨rfl,rfl,this, .inl rfl⟩
 obtain ⟨s1,s2,s3,s4⟩:=hL.send (ms:=dms.map (mgM 0 (idG k))) (fun m hm=>by
   obtain ⟨a,b,c,d⟩:=hmm m hm
   exact ⟨by rw [a]; exact isK_N2 hk,by rw [b]; exact .inl rfl,c, .inr ⟨d,b⟩⟩) (by rw [List.length_map]; exact hlen)
 have hA:=validD_ascE h.bas.dv
 have hxi : x.id = idG k:=ho.eid
 have hI:=di_pz ho.di (fun o=>isDv_pz)
 obtain ⟨q1,q2,q3,_⟩:=ho.short
 have hb : Bas ({ g with es:=putD x g.es,ls:=sendF L (dms.map (mgM 0 (idG k))) } : Grd):=by
   refine ⟨h.bas.tk,s2,s4,put_valid h.bas.dv (inv_fine (idG_ne0 hk) hI hxi),fun e he=>?_,fun e he=>?_⟩
   · rcases mem_put hA he with rfl | he
     · rw [hxi]; exact isK_N2 hk
     · exact h.bas.di e he
   · rcases mem_put hA he with rfl | he
     · exact ⟨by omega,by omega,by omega⟩
     · exact h.bas.de e he
 have dn:=fun i p=>dn_sent (p:=p) (ms:=dms.map (mgM 0 (idG k))) (fun m hm=>⟨(hmm m hm).2.1,(hmm m hm).2.2.2⟩) i
 have pu : ∀ j p,({ g with es:=putD x g.es,ls:=sendF L (dms.map (mgM 0 (idG k))) } : Grd).pu j p = if j = k then U p else g.pu j p:=fun j p=>by
   show upF (idG j) (Qn (sendF L (dms.map (mgM 0 (idG k)))) p 0) = _
   rw [s3,upF_app,(dn _ _).1,List.append_nil]
   by_cases e : j = k
   · subst e; rw [if_pos rfl,hU]
   · rw [if_neg e,hUj j p e]
 have pd : ∀ j p,({ g with es:=putD x g.es,ls:=sendF L (dms.map (mgM 0 (idG k))) } : Grd).pd j p = if j = k then g.pd k p ++ toN (idG k) dms p else g.pd j p:=fun j p=>by
   show dnF (idG j) (Qn (sendF L (dms.map (mgM 0 (idG k)))) 0 p) = _
   rw [s3,dnF_app,(dn _ _).2,hD]
   by_cases e : j = k
   · subst e
     rw [if_pos rfl]
     congr 1
     unfold toN
     refine List.filter_congr fun m hm=>?_
     rw [(hmm m hm).1]
     simp
   · rw [if_neg e]
     have : ((dms.map (mgM 0 (idG k))).filter fun m=>m.to == p && m.id == idG j) = []:=filter_none fun m hm=>by
       have c : idG k ≠ idG j:=fun c=>e (idG_inj c).symm
       simp [(hmm m hm).1,c]
     rw [this,List.append_nil]
 have pe : ∀ j,({ g with es:=putD x g.es,ls:=sendF L (dms.map (mgM 0 (idG k))) } : Grd).pe j = if j = k then x else g.pe j:=fun j=>by
   show fndD (idG j) (putD x g.es) = _
   by_cases e : j = k
   · subst e
     rw [if_pos rfl, ← hxi]
     exact fnd_put_eq hA
   · rw [if_neg e]
     exact fnd_put_ne hA (by rw [hxi]; exact fun c=>e (idG_inj c))
 have key:=GO.mk (g:={ g with es:=putD x g.es,ls:=sendF L (dms.map (mgM 0 (idG k))) }) (v:=g.val k) (k:=k) rfl ⟨hd,ho⟩ (fun p hp=>⟨rfl,by rw [pu,if_pos rfl],by rw [pd,if_pos rfl]⟩) (by rw [pe,if_pos rfl])
 have oth : ∀ j,N2 j → j ≠ k → GO ({ g with es:=putD x g.es,ls:=sendF L (dms.map (mgM 0 (idG k))) } : Grd) j ∧ ({ g with es:=putD x g.es,ls:=sendF L (dms.map (mgM 0 (idG k))) } : Grd).phi j = g.phi j:=fun j hj hne =>
   (h.ob j hj).congr rfl (fun p hp=>⟨rfl,by rw [pu,if_neg hne],by rw [pd,if_neg hne]⟩) (by rw [pe,if_neg hne])
 refine ⟨s1,⟨hb,fun j hj=>?_⟩,key.2,fun j hj hne=>(oth j hj hne).2⟩
 by_cases e : j = k
 · subst e; exact key.1
 · exact (oth j hj e).1
theorem short_len {id : Int} {V : Ob → Prop} {tk : Int → Tok} {U D : Int → List Msg} {e : En} {h : Dir.Hd} (hi : OInv id V tk U D e h) {dms : List (Dir.Mg Ob)} (hd : Dir.mgsC dms ≤ e.cost + 5) : dms.length ≤ 4000 := by
 have h1:=len_mgsC dms
 obtain ⟨_,_,h2,_⟩:=hi.short
 unfold Dir.Ent.cost Dir.dirC at hd
 omega
theorem GInv.deliver {g : Grd} (h : GInv g) {a b : Int} (hb : N3 b) : ∃ g' : Grd,DlvR g a b g' ∧ GInv g' ∧ g'.v0 = g.v0 ∧ g'.v1 = g.v1 ∧ ((Qn g.ls a b = [] ∧ g' = g) ∨ g'.Phi + 1 ≤ g.Phi) := by
 have hl9 : g.ls.length ≤ 9000:=by have:=h.bas.net.len; omega
 have hok:=h.bas.net.okK
 cases hq : Qn g.ls a b with
 | nil=>exact ⟨g,⟨hl9,hok,_,_,_,rfl, .inl ⟨dlv_none h.bas.net hq,rfl⟩⟩,h,rfl,rfl, .inl ⟨rfl,rfl⟩⟩
 | cons m r =>
   obtain ⟨L,d1,d2,d3⟩:=h.ni.dlv hq
   have hm:=h.bas.ms a b m (by rw [hq]; simp)
   obtain ⟨m1,m2, -, -⟩:=Qn_mem h.bas.net (f:=a) (t:=b) (m:=m) (by rw [hq]; simp)
   obtain ⟨k,hk,hid⟩:=isK_ex hm.id
   have hmf:=hm.fr
   rw [m1] at hmf
   have h0:=idG_ne0 hk
   obtain ⟨hd,hi⟩:=h.ob k hk
   have hes : g.es.length ≤ 9000:=by have:=h.bas.elen; omega
   have fin : ∀ g' : Grd,(g'.phi k + 1 ≤ g.phi k) → (∀ j,N2 j → j ≠ k → g'.phi j = g.phi j) → g'.Phi + 1 ≤ g.Phi:=fun g' h1 h2=>Phi_le hk h2 1 h1
   rcases hm.kd with ⟨kk,hto⟩ | ⟨kk,hfr⟩
   · rw [m2] at hto
     subst hto
     obtain ⟨u1,u2,u3,u4⟩:=dl_up hq d3 hid kk
     rcases kk with k1 | k4
     · obtain ⟨f1,f2,f3,f4,⟨hd',f5⟩,f6,f7⟩:=hi.ask hmf u1 k1
       obtain ⟨s1,s2,s3⟩:=Dir.ask_all hi.di (M3_N3.2 hmf) f3 f2 f4
       have hn3 : (3 : Int) ≠ a:=fun e1=>by unfold N3 at hmf; omega
       obtain ⟨e1,e2,e3,e4⟩:=h.home hk d2 u2 u3 u4 (short_len hi f7) (str_to s1 hi.di.m3 (by show Dir.up hd.asked a _ 3 = 0; rw [Dir.up_ne _ _ hn3]; exact hi.di.a3)) f5
       have hL:=askL_eq (h1:=hes) (h2:=h.bas.de) h0 h.bas.dv (di_pz hi.di (fun o=>isDv_pz)) (N3_N4 hmf) f3 f2 f4
       refine ⟨_,⟨hl9,hok,m,L,0,d1, .inr ⟨rfl, .inl ⟨k1,hes,h.bas.de,_,_,by rw [hid,m1]; exact hL,by rw [List.length_map]; exact Nat.le_trans (short_len hi f7) (by decide),e1,rfl⟩⟩⟩,e2,rfl,rfl, .inr (fin _ (by rw [e3]; exact f6) e4)⟩
     · obtain ⟨f1,f2,f3,⟨hd',f5⟩,f6,f7⟩:=hi.ret hmf u1 k4
       obtain ⟨s1,s2,s3⟩:=Dir.ret_all hi.di (M3_N3.2 hmf) f2 f3
       have hn3 : (3 : Int) ≠ a:=fun e1=>by unfold N3 at hmf; omega
       have f7' : Dir.mgsC (Dir.retE zOb (g.pe k) a m.obj).1 ≤ (g.pe k).cost + 5:=by omega
       obtain ⟨e1,e2,e3,e4⟩:=h.home hk d2 u2 u3 u4 (short_len hi f7') (str_to s1 (by show Dir.up hd.mode a _ 3 = 0; rw [Dir.up_ne _ _ hn3]; exact hi.di.m3) hi.di.a3) f5
       have hL:=retL_eq (h1:=hes) (h2:=h.bas.de) h0 h.bas.dv (di_pz hi.di (fun o=>isDv_pz)) (N3_N4 hmf) f2 (fun c=>isDv_pz (f3 c))
       refine ⟨_,⟨hl9,hok,m,L,0,d1, .inr ⟨rfl, .inr (.inl ⟨k4,hes,h.bas.de,_,_,by rw [hid,m1]; exact hL,by rw [List.length_map]; exact Nat.le_trans (short_len hi f7') (by decide),e1,rfl⟩)⟩⟩,e2,rfl,rfl, .inr (fin _ (by rw [e3]; exact f6) e4)⟩
   · rw [m1] at hfr
     subst hfr
     obtain ⟨u1,u2,u3,u4⟩:=dl_dn hq d3 hid kk
     have hl : (g.tk b).length ≤ 9000:=h.bas.len hb
     have hv:=h.val hb
     rcases kk with k2 | k3
     · obtain ⟨f1,f2,f3,f4,f5,f6⟩:=hi.grant hb u1 k2
       obtain ⟨o,_,_,_,_,_,_⟩:=(hi.nd b hb).grant u1 k2
       have hg : grtT (g.pt k b) m = { g.pt k b with mode:=m.mode,obj:=m.obj,want:=0 }:=by
         obtain ⟨o,e,_⟩:=(hi.nd b hb).grant u1 k2
         unfold grtT
         rw [if_pos (by rw [e]; exact Int.le_refl _)]
       have hok2 : okT (idG k) (grtT (g.pt k b) m):=by
         rw [hg]
         exact .inr (fin_grt (pt_ok h.bas hb k) h0 f2 (by rw [isDv_oid f3]; exact (pt_id g b k).symm))
       rw [up_self (g.pu k)] at f5 f6
       obtain ⟨e1,e2,e3,e4⟩:=h.step1 hk hb (t:=grtT (g.pt k b) m) (pt_id g b k) hok2 d2 (U:=g.pu k) (D:=Dir.up (g.pd k) b (dnF (idG k) r)) (u4 k) u2 (fun j p _=>u4 j p) u3 (ms:=[]) (by simp) (by simp) ⟨hd,by rw [List.append_nil,up_self]; exact f5⟩
       rw [List.append_nil,up_self] at e3
       rw [show sendF L [] = L from rfl] at e2 e3 e4
       refine ⟨_,⟨hl9,hok,m,L,0,d1, .inr ⟨rfl, .inr (.inr (.inl ⟨k2,hl,put (grtT (g.pt k b) m) (g.tk b), ?_,rfl⟩))⟩⟩,e2,(set_ls g b _).2.2.1,(set_ls g b _).2.2.2, .inr (fin _ (by rw [e3]; exact f6) e4)⟩
       unfold grt
       have hmo : okM m.mode = true:=by simpa [okM] using f2
       rw [if_neg (by simp [hv]),if_neg (by simp [k2]),if_neg (by simp [m2]),if_neg (by simp [hmo]),if_neg (by rw [isDv_oid f3,hid]; simp),hid]
       show (if (g.pt k b).want = 0 then ((0 : Int),([] : List Tok),(8 : Int)) else (b,put (grtT (g.pt k b) m) (g.tk b),0)) = _
       rw [if_neg f1]
     · obtain ⟨f1,f2,f3,⟨f4,f5⟩,f6,f7⟩:=hi.rev hb (pt_id g b k) u1 k3
       have hrv : ∀ l ms,(if (g.pt k b).mode = 0 then (b,g.tk b,[],0) else if (g.pt k b).pin = true then (b,put { g.pt k b with due:=true } (g.tk b),[],0) else (b,put (bckT (g.pt k b)) (g.tk b),[bckM b (g.pt k b) m.fr],0)) = (b,l,ms,(0 : Int)) → rvk ⟨b,g.tk b,hl⟩ m = (b,l,ms,0):=fun l ms e=>by
         unfold rvk
         rw [if_neg (by simp [hv]),if_neg (by simp [k3]),if_neg (by simp [m2]),hid]
         exact e
       by_cases hp : (g.pt k b).pin = true
       · rw [up_self (g.pu k)] at f4 f5
         obtain ⟨e1,e2,e3,e4⟩:=h.step1 hk hb (t:={ g.pt k b with due:=true }) (pt_id g b k) (.inr (fin_due (pt_ok h.bas hb k) f1 hp)) d2 (U:=g.pu k) (D:=Dir.up (g.pd k) b (dnF (idG k) r)) (u4 k) u2 (fun j p _=>u4 j p) u3 (ms:=[]) (by simp) (by simp) ⟨hd,by rw [List.append_nil,up_self]; exact f4⟩
         rw [List.append_nil,up_self] at e3
         exact ⟨_,⟨hl9,hok,m,L,0,d1, .inr ⟨rfl, .inr (.inr (.inr ⟨k3,hl,_,[],hrv _ _ (by rw [if_neg f1,if_pos hp]),by simp,e1,rfl⟩))⟩⟩,e2,(set_ls g b _).2.2.1,(set_ls g b _).2.2.2, .inr (fin _ (by rw [e3]; exact f5) e4)⟩
       · obtain ⟨e1,e2,e3,e4⟩:=h.step1 hk hb (t:=bckT (g.pt k b)) (pt_id g b k) (fin_bck (pt_ok h.bas hb k) (pt_id g b k)) d2 (U:=g.pu k) (D:=Dir.up (g.pd k) b (dnF (idG k) r)) (u4 k) u2 (fun j p _=>u4 j p) u3 (ms:=[bckM b (g.pt k b) 0]) (by
           intro x hx
           simp only [List.mem_singleton] at hx
           rw [hx]
           exact ⟨pt_id g b k,rfl,rfl, .inr rfl⟩) (by simp) ⟨hd,f6⟩
         exact ⟨_,⟨hl9,hok,m,L,0,d1, .inr ⟨rfl, .inr (.inr (.inr ⟨k3,hl,_,[bckM b (g.pt k b) 0],hrv _ _ (by rw [if_neg f1,if_neg hp,f2]),by simp,e1,rfl⟩))⟩⟩,e2,(set_ls g b _).2.2.1,(set_ls g b _).2.2.2, .inr (fin _ (by rw [e3]; exact f7) e4)⟩
end
section
noncomputable def dv0 (k : Int) (w1 : (Lit.int .u64 (idG k)).wf = true) : Ob := dvO (idG k) 0 w1 (by decide)
theorem idG_wf {k : Int} (hk : N2 k) : (Lit.int .u64 (idG k)).wf = true := by rcases hk with rfl | rfl <;> decide
theorem sp_idG {k : Int} (hk : N2 k) : sp0 (idG k) = 1 := by rcases hk with rfl | rfl <;> decide
theorem ow_idG {k : Int} (hk : N2 k) : ow0 (idG k) = 1 := by
 rw [ow0,sp_idG hk]
 rfl
noncomputable def tkI (k : Int) (w1 : (Lit.int .u64 (idG k)).wf = true) : Tok := ⟨idG k,2,dv0 k w1,0,false,false⟩
theorem two0 : (2 : Int) ≠ 0 := by decide
theorem tkI_ok {k : Int} (hk : N2 k) (w1 : (Lit.int .u64 (idG k)).wf = true) : okT (idG k) (tkI k w1) :=
 .inr (fineR_iff.2 ⟨idG_ne0 hk, .inr (.inr rfl), .inl rfl, .inr ⟨oid_dv (h1:=w1) (h2:=by decide),two0⟩,fun _=>two0,by simp [tkI], .inl two0⟩)
theorem wz0 : (Lit.int .u64 (idG 0)).wf = true := by decide
theorem wz1 : (Lit.int .u64 (idG 1)).wf = true := by decide
noncomputable def l1I : List Tok := put (tkI 0 wz0) []
noncomputable def l2I : List Tok := put (tkI 1 wz1) l1I
theorem l1_ok : TkOK l1I := put_okT .nil (.inl rfl) (tkI_ok (.inl rfl) _) rfl
theorem l2_ok : TkOK l2I := put_okT l1_ok (.inr rfl) (tkI_ok (.inr rfl) _) rfl
theorem l2_tk {k : Int} (hk : N2 k) : ∃ w1,tkF l2I (idG k) = tkI k w1 := by
 have h2:=tkF_put' l1_ok.srt (tkI_ok (.inr rfl) wz1) rfl
 have h1:=tkF_put' (l:=[]) TkOK.nil.srt (tkI_ok (.inl rfl) wz0) rfl
 rcases hk with rfl | rfl
 · exact ⟨wz0,(h2 0).trans (h1 0)⟩
 · exact ⟨wz1,h2 1⟩
noncomputable def g0 : Grd := ⟨[],l2I,[],[],[],0,0⟩
def hd0 : Dir.Hd := ⟨fun n => if n = 1 then 2 else 0,fun _ => false,fun _ => 0⟩
theorem g0_inv : GInv g0 := by
 refine ⟨⟨fun n hn=>?_,NtOK.nil,fun f t m hm=>(by cases hm),by decide,fun e he=>(by cases he),fun e he=>(by cases he)⟩,fun k hk=>⟨hd0, ?_⟩⟩
 · rcases hn with rfl | rfl | rfl
   · exact TkOK.nil
   · exact l2_ok
   · exact TkOK.nil
 · obtain ⟨w1,ht⟩:=l2_tk hk
   have hpt : ∀ n,N3 n → g0.pt k n = if n = 1 then tkI k w1 else tok0 (idG k):=fun n hn=>by
     rcases hn with rfl | rfl | rfl
     · rfl
     · exact ht
     · rfl
   have hval : g0.val k = 0:=by rcases hk with rfl | rfl <;> rfl
   have hpe : g0.pe k = ⟨idG k,1,[],zOb,[],[]⟩:=by
     show ent0 (idG k) = _
     unfold ent0
     rw [ow_idG hk]
   have hm : ∀ n,hd0.mode n = if n = 1 then 2 else 0:=fun _=>rfl
   rw [hpe]
   refine ⟨⟨⟨⟨fun n hn=>?_,fun n hn=>?_,fun n hn=>?_, .inr (show Dir.N4 1 by unfold Dir.N4; omega),by simp,List.Pairwise.nil,fun _=>rfl,fun _=>rfl,trivial,by simp,List.Pairwise.nil,fun n hn c=>absurd rfl c⟩,fun n hn=>?_, .inl ⟨rfl,rfl⟩⟩,fun c=>absurd (show (1 : Int) = -1 from c) (by decide),rfl,rfl⟩,rfl,fun n hn=>?_,fun n hn hne=>?_⟩
   · rw [hm]
     show _ ↔ (1 : Int) = n
     split <;> omega
   · rw [hm]
     split <;> simp
   · rw [hm]
     split <;> omega
   · show false = true ↔ n ∈ []
     simp
   · rw [hpt n hn,hm]
     by_cases e : n = 1
     · rw [if_pos e,if_pos e]
       exact .s00 2
     · rw [if_neg e,if_neg e]
       exact .s00 0
   · rw [hpt n hn] at hne ⊢
     by_cases e : n = 1
     · rw [if_pos e]
       show IsDv (dv0 k w1) (idG k) (g0.val k)
       rw [hval]
       exact ⟨_,_,rfl⟩
     · rw [if_neg e] at hne
       exact absurd rfl hne
theorem mke_g0 {l : List Tok} {h9 : l.length ≤ 9000} (hl : TkOK l) {k : Int} (hk : N2 k) (w1 : (Lit.int .u64 (idG k)).wf = true) (h0 : tkF l (idG k) = tok0 (idG k)) : mkeL ⟨1,l,h9⟩ (dv0 k w1) = (1,put (tkI k w1) l,0) := by
 unfold mkeL
 have ho : oid (dv0 k w1) = idG k:=oid_dv
 rw [if_neg (by simp [hl.valid (show okN 1 = true by decide)]),ho,if_neg (idG_ne0 hk),sp_idG hk,if_neg (fun c=>c rfl)]
 dsimp only
 have h1 : (fnd (idG k) l).getD (tok0 (idG k)) = tok0 (idG k):=h0
 rw [h1,if_neg (fun c=>c rfl),if_neg (fun c=>c rfl)]
 rfl
theorem mke_1 (h9 : ([] : List Tok).length ≤ 9000) : mkeL ⟨1,[],h9⟩ (dv0 0 wz0) = (1,l1I,0) := mke_g0 .nil (.inl rfl) wz0 rfl
theorem mke_2 (h9 : l1I.length ≤ 9000) : mkeL ⟨1,l1I,h9⟩ (dv0 1 wz1) = (1,l2I,0) := mke_g0 l1_ok (.inr rfl) wz1 (by
 have h1:=tkF_put' (l:=[]) TkOK.nil.srt (tkI_ok (.inl rfl) wz0) rfl 1
 exact h1)
theorem to_pt (g : Grd) (n k : Int) : g.to n k = g.pt k n := rfl
theorem GInv.good {g : Grd} (h : GInv g) : GoodG g := by
 have hm : ∀ n k,N3 n → N2 k → (g.pt k n).mode = 0 ∨ (g.pt k n).mode = 1 ∨ (g.pt k n).mode = 2:=fun n k hn hk=>by
   rcases pt_ok h.bas hn k with e | e
   · rw [e]; exact .inl rfl
   · exact (fineR_iff.1 e).2.1
 refine ⟨fun n hn=>h.bas.len hn,fun n k hn hk=>?_,fun k hk=>?_⟩
 · unfold GoodT
   rw [to_pt]
   obtain ⟨hd,hi⟩:=h.ob k hk
   rcases hm n k hn hk with e | e | e
   · exact .inl e
   · exact .inr ⟨.inl e,hi.ob n hn (by omega)⟩
   · exact .inr ⟨.inr e,hi.ob n hn (by omega)⟩
 · obtain ⟨hd,hi⟩:=h.ob k hk
   have s:=fun n p (hn : N3 n) (hp : N3 p) (hne : n ≠ p)=>hi.safe hn hp hne
   have n0 : N3 0 := .inl rfl
   have n1 : N3 1 := .inr (.inl rfl)
   have n2 : N3 2 := .inr (.inr rfl)
   have s01:=s 0 1 n0 n1 (by decide)
   have s02:=s 0 2 n0 n2 (by decide)
   have s10:=s 1 0 n1 n0 (by decide)
   have s12:=s 1 2 n1 n2 (by decide)
   have s20:=s 2 0 n2 n0 (by decide)
   have s21:=s 2 1 n2 n1 (by decide)
   simp only [cW,cH]
   show (0 + wri (g.pt k 0) + wri (g.pt k 1) + wri (g.pt k 2) ≤ 1) ∧ (0 + wri (g.pt k 0) + wri (g.pt k 1) + wri (g.pt k 2) = 1 → 0 + hol (g.pt k 0) + hol (g.pt k 1) + hol (g.pt k 2) ≤ 1)
   have hA:=hm 0 k n0 hk
   have hB:=hm 1 k n1 hk
   have hC:=hm 2 k n2 hk
   unfold wri hol
   generalize (g.pt k 0).mode = a0 at *
   generalize (g.pt k 1).mode = a1 at *
   generalize (g.pt k 2).mode = a2 at *
   clear hm s
   rcases hA with rfl | rfl | rfl <;> rcases hB with rfl | rfl | rfl <;> rcases hC with rfl | rfl | rfl <;> first
     | exact ⟨by decide,by decide⟩
     | exact absurd (s01 rfl) (by decide)
     | exact absurd (s02 rfl) (by decide)
     | exact absurd (s10 rfl) (by decide)
     | exact absurd (s12 rfl) (by decide)
     | exact absurd (s20 rfl) (by decide)
     | exact absurd (s21 rfl) (by decide)
theorem GInv.bound {g : Grd} (h : GInv g) : g.Phi ≤ 48 := by
 obtain ⟨_,h0⟩:=h.ob 0 (.inl rfl)
 obtain ⟨_,h1⟩:=h.ob 1 (.inr rfl)
 have a:=h0.bound
 have b:=h1.bound
 unfold Grd.Phi
 show phi (g.pt 0) (g.pu 0) (g.pd 0) (g.pe 0) + phi (g.pt 1) (g.pu 1) (g.pd 1) (g.pe 1) ≤ 48
 omega
def Emp (g : Grd) (a b : Int) : Prop := Qn g.ls a b = []
def Nod (g : Grd) (a : Int) : Prop := dues (g.tk a) = []
structure Dn (g : Grd) (i : Nat) : Prop where
 emp : ∀ a b : Nat,a < 3 → b < 3 → 3 * a + b < i → Emp g a b
 nod : ∀ a : Nat,a < 3 → 3 * a < i → Nod g a
def Rnd (P i : Nat) (g : Grd) : Prop := g.Phi + 1 ≤ P ∨ (g.Phi ≤ P ∧ Dn g i)
theorem Nod.upM {g : Grd} {n : Int} (h : Nod g n) : upM n (g.tk n) = [] := by
 rw [upM_eq,show dues (g.tk n) = [] from h]
 rfl
theorem dues_unp : ∀ l : List Tok,dues (unpL l) = []
 | []=>rfl
 | t :: r=>by
   have ih:=dues_unp r
   unfold dues at ih ⊢
   rw [unpL]
   split
   · split
     · exact ih
     · rw [List.filter_cons,if_neg (by simp [bckT])]
       exact ih
   · rename_i hd
     rw [List.filter_cons,if_neg (by simpa [unpinT] using hd)]
     exact ih
theorem N3_nat {a : Nat} (h : a < 3) : N3 (a : Int) := by unfold N3; omega
theorem round_step {g : Grd} (h : GInv g) {P : Nat} {a b : Nat} (ha : a < 3) (hb : b < 3) (hr : Rnd P (3 * a + b) g) : ∃ g',DlvR (g.unpin a) a b g' ∧ GInv g' ∧ Rnd P (3 * a + b + 1) g' := by
 have hna:=N3_nat ha
 have hnb:=N3_nat hb
 obtain ⟨s1,s2,s3,s4,_⟩:=h.unpin hna
 obtain ⟨g',d1,d2,_,_,d5⟩:=s2.deliver (a:=(a : Int)) hnb
 refine ⟨g',d1,d2, ?_⟩
 rcases d5 with ⟨d5,rfl⟩ | d5
 · rcases hr with hr | ⟨hr,hd⟩
   · exact .inl (by omega)
   · refine .inr ⟨by omega, ?_⟩
     have hnone : upM (a : Int) (g.tk a) = []:=by
       by_cases hb0 : b = 0
       · subst hb0
         rw [s4] at d5
         obtain ⟨_,d6⟩:=List.append_eq_nil_iff.1 d5
         rw [List.filter_eq_self.2 (fun m hm=>by
           obtain ⟨e1,e2,_⟩:=upM_mem (h.bas.tk _ hna) hm
           simp [e1,e2])] at d6
         exact d6
       · exact (hd.nod a ha (by omega)).upM
     have hQ : ∀ f t,Qn (g.unpin a).ls f t = Qn g.ls f t:=fun f t=>by rw [s4,hnone]; simp
     refine ⟨fun a' b' ha' hb' hlt=>?_,fun a' ha' hlt=>?_⟩
     · by_cases e : 3 * a' + b' < 3 * a + b
       · unfold Emp
         rw [hQ]
         exact hd.emp a' b' ha' hb' e
       · have e1 : a' = a:=by omega
         have e2 : b' = b:=by omega
         rw [e1,e2]
         exact d5
     · unfold Nod
       rw [unp_tk hna (N3_nat ha')]
       split
       · exact dues_unp _
       · rename_i hne
         refine hd.nod a' ha' ?_
         have : a' ≠ a:=fun c=>hne (by rw [c])
         omega
 · left
   rcases hr with hr | ⟨hr,_⟩
   · omega
   · omega
theorem tk_due {g : Grd} {k n : Int} (h : Nod g n) : (g.pt k n).due = false := by
 unfold Grd.pt tkF
 cases hf : fnd (idG k) (g.tk n) with
 | none=>rfl
 | some t =>
   have hm:=(fnd_mem hf).1
   cases hd : t.due with
   | false=>exact hd
   | true =>
     have : t ∈ dues (g.tk n):=List.mem_filter.2 ⟨hm,by simpa using hd⟩
     rw [show dues (g.tk n) = [] from h] at this
     cases this
theorem Dn.zero {g : Grd} (h : GInv g) (hd : Dn g 9) : g.Phi = 0 := by
 have key : ∀ k,N2 k → g.phi k = 0:=fun k hk=>by
   obtain ⟨_,hi⟩:=h.ob k hk
   refine (hi.zero fun n hn=>?_).1
   have hq : ∀ f t : Int,N3 f → N3 t → Qn g.ls f t = []:=fun f t hf ht=>by
     have:=hd.emp f.toNat t.toNat (by unfold N3 at hf; omega) (by unfold N3 at ht; omega) (by unfold N3 at hf ht; omega)
     unfold Emp at this
     rwa [show ((f.toNat : Nat) : Int) = f by unfold N3 at hf; omega,show ((t.toNat : Nat) : Int) = t by unfold N3 at ht; omega] at this
   refine ⟨?_, ?_, ?_⟩
   · unfold Grd.pu
     rw [hq n 0 hn (.inl rfl)]
     rfl
   · unfold Grd.pd
     rw [hq 0 n (.inl rfl) hn]
     rfl
   · have:=hd.nod n.toNat (by unfold N3 at hn; omega) (by unfold N3 at hn; omega)
     rw [show ((n.toNat : Nat) : Int) = n by unfold N3 at hn; omega] at this
     exact tk_due this
 unfold Grd.Phi
 rw [key 0 (.inl rfl),key 1 (.inr rfl)]
theorem round_end {g : Grd} (h : GInv g) {r : Nat} (hr : Rnd (60 - r) 9 g) : g.Phi ≤ 60 - (r + 1) := by
 rcases hr with hr | ⟨_,hd⟩
 · omega
 · rw [hd.zero h]
   omega
theorem GInv.fin {g : Grd} (h : GInv g) (hz : g.Phi = 0) : g.ls = [] ∧ ∀ n,N3 n → ∀ t ∈ g.tk n,t.want = 0 ∧ t.due = false := by
 have hp : ∀ k,N2 k → g.phi k = 0:=fun k hk=>by
   unfold Grd.Phi at hz
   rcases hk with rfl | rfl <;> omega
 have hk : ∀ k,N2 k → ∀ n,N3 n → g.pu k n = [] ∧ g.pd k n = [] ∧ (g.pt k n).due = false:=fun k hk n hn=>phi_zero (hp k hk) hn
 refine ⟨Qn_nil h.bas.net fun f t hf ht=>?_,fun n hn t ht=>?_⟩
 · cases hq : Qn g.ls f t with
   | nil=>rfl
   | cons m r =>
     have hmem : m ∈ Qn g.ls f t:=by rw [hq]; simp
     have hm:=h.bas.ms f t m hmem
     obtain ⟨m1,m2,_,_⟩:=Qn_mem h.bas.net hmem
     obtain ⟨k,hk2,hid⟩:=isK_ex hm.id
     rcases hm.kd with ⟨kk,hto⟩ | ⟨kk,hfr⟩
     · have:=(hk k hk2 f hf).1
       unfold Grd.pu upF at this
       rw [← hto,m2,hq,List.filter_cons,if_pos (by rcases kk with e | e <;> simp [hid,e])] at this
       cases this
     · have:=(hk k hk2 t ht).2.1
       unfold Grd.pd dnF at this
       rw [← hfr,m1,hq,List.filter_cons,if_pos (by rcases kk with e | e <;> simp [hid,e])] at this
       cases this
 · have hT := h.bas.tk n hn
   obtain ⟨k,hk2,hid⟩:=isK_ex (hT.ids t ht)
   have hpt : g.pt k n = t:=by
     unfold Grd.pt tkF
     rw [← hid]
     have : ∀ l : List Tok,Srt l → t ∈ l → fnd t.id l = some t:=fun l=>by
       induction l with
       | nil=>intro _ hm; cases hm
       | cons x r ih =>
         intro hs hm
         obtain ⟨h1,h2⟩:=List.pairwise_cons.1 hs
         rcases List.mem_cons.1 hm with rfl | hm
         · rw [fnd,if_pos rfl]
         · have:=h1 t hm
           rw [fnd,if_neg (by omega)]
           exact ih h2 hm
     rw [this _ hT.srt ht]
     rfl
   obtain ⟨hd,hi⟩:=h.ob k hk2
   have hw:=(hi.zero (hk k hk2)).2 n hn
   have hdu:=(hk k hk2 n hn).2.2
   rw [hpt] at hw hdu
   exact ⟨hw,hdu⟩
end
section
theorem tNVT : Try.prog.funcs.all (fun fn => !(fn.name == "runtime.NumGoroutine")) = true := by kernel_rfl
def baseT : NL SpecFn := [(49,deleteC 71 41),(56,cloneC 71 41 496)]
theorem baseT_ok : ∀ f S,lk baseT f = some S → FnC Try.prog f S := by
 intro f S h
 simp only [baseT,lk] at h
 split at h
 · rename_i e; subst e; cases h; exact delete49_ok
 split at h
 · rename_i e; subst e; cases h; exact clone56_ok
 · cases h
noncomputable def runT (f : FuncId) : SpecFn := runB Try.prog baseT 1000 40 f
theorem runT_ok (f : FuncId) {fn : Func} {body : Code} (hf : Try.prog.funcs[f]? = some fn) (hb : fn.body = some body) : FnC Try.prog f (runT f) := runB_ok baseT_ok tm tNVT 40 f hf hb
noncomputable def pfT (f : FuncId) : SpecFn := pureS (runT f)
theorem pfT_ok (f : FuncId) {fn : Func} {body : Code} (hf : Try.prog.funcs[f]? = some fn) (hb : fn.body = some body) : FnC Try.prog f (pfT f) := FnC.pure (runT_ok f hf hb)
theorem saneT_eq : pfT 4 [] [] = some (.bool true,[]) := by kernel_rfl
theorem saneT_ex : ∃ S,FnC Try.prog 4 S ∧ S [] [] = some (.bool true,[]) := ⟨_,pfT_ok 4 Try.func4 rfl,saneT_eq⟩
end
end Go.Abs.Np
