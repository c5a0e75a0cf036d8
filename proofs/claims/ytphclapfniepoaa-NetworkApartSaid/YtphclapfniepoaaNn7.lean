/- Networks that are made: plain laws. Conditions: none. -/
import Derived.Test.YtphclapfniepoaaNn6
import Derived.Test.YtphclapfniepoaaNn3
import Derived.Test.YtphclapfniepoaaAb9
import Derived.Test.YtphclapfniepoaaAb8
namespace Go.Abs.Nn
open Go Go.Proofs Go.Abs
set_option maxRecDepth 100000
set_option maxHeartbeats 4000000
set_option linter.unusedSimpArgs false
set_option linter.unusedVariables false
section
def R4 (n : Int) : Prop := 0 ≤ n ∧ n < 4
theorem R4_ok {n : Int} (h : R4 n) : okN n = true := by
 obtain ⟨h1,h2⟩:=h
 simp only [okN,Bool.and_eq_true,decide_eq_true_eq]
 omega
structure NtV (n c : Nat) (ls : List Lk) : Prop where
 srt : SrtK ls
 len : ls.length ≤ c
 lk : ∀ l ∈ ls,R4 l.fr ∧ R4 l.to ∧ l.q.length ≤ n ∧ ¬ (l.cut = false ∧ l.q = []) ∧ ∀ m ∈ l.q,m.fr = l.fr ∧ m.to = l.to
theorem NtV.nil : NtV 0 0 [] := ⟨List.Pairwise.nil,Nat.le_refl _,fun l h => (by cases h)⟩
theorem NtV.mono {n c n' c' : Nat} {ls : List Lk} (h : NtV n c ls) (hn : n ≤ n') (hc : c ≤ c') : NtV n' c' ls :=
 ⟨h.srt,Nat.le_trans h.len hc,fun l hl=>by
   obtain ⟨h1,h2,h3,h4⟩:=h.lk l hl
   exact ⟨h1,h2,Nat.le_trans h3 hn,h4⟩⟩
theorem NtV.valid {n c : Nat} {ls : List Lk} (h : NtV n c ls) (hn : n ≤ 4096) : validK ls = true := by
 refine validK_yes fun k hk=>?_
 obtain ⟨a,b,c,d,f⟩:=h.lk _ (List.getElem_mem hk)
 unfold goodK
 rw [List.getElem?_eq_getElem hk]
 have h1 : lkB ls[k] = true:=by
   unfold lkB
   rw [R4_ok a,R4_ok b,decide_eq_true (Nat.le_trans c hn)]
   cases hc : ls[k].cut with
   | true=>rfl
   | false=>cases hq : ls[k].q with
     | nil=>exact absurd ⟨hc,hq⟩ d
     | cons x r=>rfl
 have h2 : ls[k].q.all (fun m=>m.fr == ls[k].fr && m.to == ls[k].to) = true:=by
   rw [List.all_eq_true]
   intro m hm
   obtain ⟨x,y⟩:=f m hm
   simp [x,y]
 simp only [h1,h2,Bool.true_and]
 cases k with
 | zero=>rfl
 | succ i =>
   simp only [List.getElem?_eq_getElem (show i < ls.length by omega)]
   exact List.pairwise_iff_getElem.1 h.srt i (i + 1) (by omega) hk (by omega)
theorem NtV.okK {n c : Nat} {ls : List Lk} (h : NtV n c ls) (hn : n ≤ 4096) : ∀ l ∈ ls,okK l := fun l hl => by
 have:=(h.lk l hl).2.2.1
 unfold Go.Abs.Nn.okK
 omega
theorem NtV.put {n c : Nat} {ls : List Lk} (h : NtV n c ls) {y : Lk} (hf : R4 y.fr) (ht : R4 y.to) (hq : y.q.length ≤ n) (hm : ∀ m ∈ y.q,m.fr = y.fr ∧ m.to = y.to) : NtV n (c + 1) (putK y ls) := by
 refine ⟨srt_part h.srt y,Nat.le_trans (putK_len y ls) (Nat.succ_le_succ h.len),fun l hl=>?_⟩
 by_cases hd : (!y.cut && y.q.isEmpty) = true
 · unfold putK restK at hl
   rw [if_pos hd] at hl
   exact h.lk l (othK_mem hl)
 · rcases putK_mem hl with rfl | hl
   · refine ⟨hf,ht,hq,fun ⟨h1,h2⟩=>hd (by rw [h1,h2]; rfl),hm⟩
   · exact h.lk l hl
theorem NtV.fnd {n c : Nat} {ls : List Lk} (h : NtV n c ls) (f t : Int) : (fndK f t ls).q.length ≤ n ∧ ∀ m ∈ (fndK f t ls).q,m.fr = f ∧ m.to = t := by
 unfold fndK
 cases hf : ls.find? (lkIs f t) with
 | none=>exact ⟨Nat.zero_le _,fun m hm=>by cases hm⟩
 | some l =>
   obtain ⟨e1,e2⟩:=lkIsK_iff.1 (List.find?_some hf)
   obtain ⟨_,_,h1,_,h2⟩:=h.lk l (List.mem_of_find?_eq_some hf)
   rw [e1,e2] at h2
   exact ⟨h1,h2⟩
theorem othK_none (y : Lk) (l : List Lk) : (othK y l).find? (lkIs y.fr y.to) = none := by
 rw [List.find?_eq_none]
 intro x hx hk
 obtain ⟨e1,e2⟩:=lkIsK_iff.1 hk
 have:=(List.mem_filter.1 hx).2
 simp [e1,e2] at this
theorem memK_put (y : Lk) : ∀ l : List Lk,y ∈ putP y l
 | []=>by simp [putP]
 | e :: r=>by
   rw [putP]
   split
   · exact List.mem_cons_of_mem _ (memK_put y r)
   · exact List.mem_cons_self ..
theorem fndK_self {l : List Lk} (hs : SrtK l) (y : Lk) : fndK y.fr y.to (putK y l) = y := by
 by_cases hd : (!y.cut && y.q.isEmpty) = true
 · have e : putK y l = othK y l:=by unfold putK restK; rw [if_pos hd]
   rw [e,fndK,othK_none]
   obtain ⟨a,b,c,q⟩:=y
   cases c <;> cases q <;> first | rfl | simp at hd
 · have e : y ∈ putK y l:=by
     unfold putK restK
     rw [if_neg hd]
     exact memK_put y l
   exact fnd_self (srt_part hs y) y e
theorem srt_ext : ∀ {a b : List Lk},SrtK a → SrtK b → (∀ x,x ∈ a ↔ x ∈ b) → a = b
 | [],[],_,_,_=>rfl
 | [],y :: b,_,_,h=>by have:=(h y).2 (by simp); cases this
 | x :: a,[],_,_,h=>by have:=(h x).1 (by simp); cases this
 | x :: a,y :: b,ha,hb,h=>by
   have ha:=List.pairwise_cons.1 ha
   have hb:=List.pairwise_cons.1 hb
   have irr : ∀ {u v : Lk},befB u v.fr v.to = true → befB v u.fr u.to = true → False:=fun h1 h2=>by
     rw [befK_iff] at h1 h2
     omega
   have hxy : x = y:=by
     rcases List.mem_cons.1 ((h x).1 (by simp)) with e | e
     · exact e
     · rcases List.mem_cons.1 ((h y).2 (by simp)) with e2 | e2
       · exact e2.symm
       · exact (irr (hb.1 x e) (ha.1 y e2)).elim
   subst hxy
   congr 1
   refine srt_ext ha.2 hb.2 fun z=>⟨fun hz=>?_,fun hz=>?_⟩
   · rcases List.mem_cons.1 ((h z).1 (by simp [hz])) with e | e
     · subst e
       exact (irr (ha.1 z hz) (ha.1 z hz)).elim
     · exact e
   · rcases List.mem_cons.1 ((h z).2 (by simp [hz])) with e | e
     · subst e
       exact (irr (hb.1 z hz) (hb.1 z hz)).elim
     · exact e
theorem NtV.sub {n c n' c' : Nat} {a b : List Lk} (ha : NtV n c a) (_hb : NtV n' c' b) (h : ∀ f t,fndK f t a = fndK f t b) (x : Lk) (hx : x ∈ a) : x ∈ b := by
 have e:=fnd_self ha.srt x hx
 rw [h] at e
 unfold fndK at e
 cases hf : b.find? (lkIs x.fr x.to) with
 | none =>
   rw [hf] at e
   have e : (⟨x.fr,x.to,false,[]⟩ : Lk) = x:=e
   exact ((ha.lk x hx).2.2.2.1 ⟨by rw [← e],by rw [← e]⟩).elim
 | some z =>
   rw [hf] at e
   have e : z = x:=e
   rw [← e]
   exact List.mem_of_find?_eq_some hf
theorem NtV.ext {n c n' c' : Nat} {a b : List Lk} (ha : NtV n c a) (hb : NtV n' c' b) (h : ∀ f t,fndK f t a = fndK f t b) : a = b :=
 srt_ext ha.srt hb.srt fun x=>⟨ha.sub hb h x,hb.sub ha (fun f t=>(h f t).symm) x⟩
noncomputable def dlvO (l : Lk) : Msg × Int := match l.q with
 | []=>(mz,6)
 | m :: _=>if l.cut then (mz,8) else (m,0)
theorem dlvN_o {ls : List Lk} (h : validK ls = true) (f t : Int) : (dlvN ls f t).1 = (dlvO (fndK f t ls)).1 ∧ (dlvN ls f t).2.2 = (dlvO (fndK f t ls)).2 := by
 unfold dlvN dlvO
 rw [if_neg (by simp [h])]
 dsimp only
 cases (fndK f t ls).q with
 | nil=>exact ⟨rfl,rfl⟩
 | cons m r=>cases (fndK f t ls).cut <;> exact ⟨rfl,rfl⟩
theorem snd_v {n c : Nat} {ls : List Lk} (h : NtV n c ls) (hn : n < 4096) {m : Msg} (hf : R4 m.fr) (ht : R4 m.to) : sndN ls m = (putK ⟨m.fr,m.to,(fndK m.fr m.to ls).cut,(fndK m.fr m.to ls).q ++ [m]⟩ ls,0) ∧ NtV (n + 1) (c + 1) (putK ⟨m.fr,m.to,(fndK m.fr m.to ls).cut,(fndK m.fr m.to ls).q ++ [m]⟩ ls) := by
 have h2:=h.fnd m.fr m.to
 refine ⟨?_,(h.mono (Nat.le_succ n) (Nat.le_refl c)).put hf ht (by simp; omega) fun x hx=>?_⟩
 · unfold sndN
   rw [if_neg (by simp [h.valid (by omega)]),if_neg (by simp [R4_ok hf,R4_ok ht])]
   dsimp only
   rw [if_neg (by omega),(fnd_ft m.fr m.to).1,(fnd_ft m.fr m.to).2]
 · rcases List.mem_append.1 hx with hx | hx
   · exact h2.2 x hx
   · rw [List.mem_singleton.1 hx]
     exact ⟨rfl,rfl⟩
theorem dlv_v {n c : Nat} {ls : List Lk} (h : NtV n c ls) (hn : n ≤ 4096) {f t : Int} (hf : R4 f) (ht : R4 t) (h0 : (dlvN ls f t).2.2 = 0) : ∃ m r,(fndK f t ls).cut = false ∧ (fndK f t ls).q = m :: r ∧ dlvN ls f t = (m,putK ⟨f,t,false,r⟩ ls,0) ∧ NtV n (c + 1) (putK ⟨f,t,false,r⟩ ls) := by
 have h2:=h.fnd f t
 have h3:=fnd_ft (l:=ls) f t
 unfold dlvN at h0 ⊢
 rw [if_neg (by simp [h.valid hn])] at h0 ⊢
 dsimp only at h0 ⊢
 cases hq : (fndK f t ls).q with
 | nil=>rw [hq] at h0; exact absurd (show (6 : Int) = 0 from h0) (by decide)
 | cons m r =>
   rw [hq] at h0 h2
   cases hc : (fndK f t ls).cut with
   | true=>rw [hc] at h0; exact absurd (show (8 : Int) = 0 from h0) (by decide)
   | false =>
     refine ⟨m,r,rfl,rfl, ?_,h.put hf ht (by have:=h2.1; simp only [List.length_cons] at this; dsimp only; omega) fun x hx=>h2.2 x (by simp [hx])⟩
     rw [h3.1,h3.2]
     rfl
theorem cut_v {n c : Nat} {ls : List Lk} (h : NtV n c ls) {a b : Int} (ha : R4 a) (hb : R4 b) (k : Bool) (h0 : (cutN ls a b k).2 = 0) : NtV n (c + 2) (cutN ls a b k).1 := by
 unfold cutN at h0 ⊢
 split at h0
 · exact absurd h0 (by decide)
 · rename_i h1
   rw [if_neg h1]
   split at h0
   · exact absurd h0 (by decide)
   · rename_i h2
     rw [if_neg h2]
     have e1:=fnd_ft (l:=ls) a b
     have e2:=fnd_ft (l:=ls) b a
     have x1:=h.fnd a b
     have x2:=h.fnd b a
     refine NtV.put (c:=c + 1) (NtV.put h ?_ ?_ ?_ ?_) ?_ ?_ ?_ ?_
     all_goals dsimp only
     all_goals first | rw [e1.1,e1.2] | rw [e2.1,e2.2] | rw [e1.1] | rw [e1.2] | rw [e2.1] | rw [e2.2] | skip
     all_goals first | exact ha | exact hb | exact x1.1 | exact x2.1 | exact x1.2 | exact x2.2
theorem apart {n c : Nat} {ls : List Lk} (h : NtV n c ls) (hn : n < 4096) {m : Msg} (hf : R4 m.fr) (ht : R4 m.to) {k l : Int} (hk : R4 k) (hl : R4 l) (hne : ¬ (m.fr = k ∧ m.to = l)) :
   (sndN ls m).2 = 0 ∧ NtV (n + 1) (c + 1) (sndN ls m).1 ∧ (dlvN (sndN ls m).1 k l).1 = (dlvN ls k l).1 ∧ (dlvN (sndN ls m).1 k l).2.2 = (dlvN ls k l).2.2 ∧ ((dlvN ls k l).2.2 = 0 → NtV n (c + 1) (dlvN ls k l).2.1 ∧ (sndN (dlvN ls k l).2.1 m).2 = 0 ∧ (dlvN (sndN ls m).1 k l).2.1 = (sndN (dlvN ls k l).2.1 m).1 ∧ NtV (n + 1) (c + 2) (sndN (dlvN ls k l).2.1 m).1):=by
 obtain ⟨e1,v1⟩:=snd_v h hn hf ht
 have hne' : ∀ {c q},lkIs k l ⟨m.fr,m.to,c,q⟩ = false:=Bool.eq_false_iff.2 fun h2=>hne (lkIsK_iff.1 h2)
 have hne2 : ∀ {c q},lkIs m.fr m.to ⟨k,l,c,q⟩ = false:=Bool.eq_false_iff.2 fun h2=>hne (by obtain ⟨a,b⟩:=lkIsK_iff.1 h2; exact ⟨a.symm,b.symm⟩)
 have ef : fndK k l (sndN ls m).1 = fndK k l ls:=by rw [e1]; exact fndK_put hne' ls
 have o1:=dlvN_o (h.valid (by omega)) k l
 have o2:=dlvN_o (ls:=(sndN ls m).1) (by rw [e1]; exact v1.valid (by omega)) k l
 rw [ef] at o2
 refine ⟨by rw [e1],by rw [e1]; exact v1,by rw [o1.1,o2.1],by rw [o1.2,o2.2],fun h0=>?_⟩
 have h02 : (dlvN (sndN ls m).1 k l).2.2 = 0:=by rw [o2.2, ← o1.2,h0]
 obtain ⟨p,r,a1,a2,a3,a4⟩:=dlv_v h (by omega) hk hl h0
 obtain ⟨p',r',b1,b2,b3,b4⟩:=dlv_v (ls:=(sndN ls m).1) (by rw [e1]; exact v1) (by omega) hk hl h02
 rw [ef] at b1 b2
 rw [a2] at b2
 cases b2
 rw [a3,b3]
 dsimp only
 obtain ⟨s1,s2⟩:=snd_v a4 hn hf ht
 refine ⟨a4,by rw [s1], ?_,by rw [s1]; exact s2⟩
 refine NtV.ext b4 (by rw [s1]; exact s2) fun f t=>?_
 rw [s1]
 dsimp only
 rw [e1] at b4 ⊢
 dsimp only at b4 ⊢
 by_cases g1 : k = f ∧ l = t
 · obtain ⟨rfl,rfl⟩:=g1
   rw [fndK_self v1.srt ⟨k,l,false,r⟩,fndK_put hne',fndK_self h.srt ⟨k,l,false,r⟩]
 · have g1' : ∀ {c q},lkIs f t ⟨k,l,c,q⟩ = false:=Bool.eq_false_iff.2 fun h2=>g1 (lkIsK_iff.1 h2)
   rw [fndK_put g1']
   by_cases g2 : m.fr = f ∧ m.to = t
   · obtain ⟨rfl,rfl⟩:=g2
     have z1:=fndK_self h.srt ⟨m.fr,m.to,(fndK m.fr m.to ls).cut,(fndK m.fr m.to ls).q ++ [m]⟩
     have z2:=fndK_self a4.srt ⟨m.fr,m.to,(fndK m.fr m.to (putK ⟨k,l,false,r⟩ ls)).cut,(fndK m.fr m.to (putK ⟨k,l,false,r⟩ ls)).q ++ [m]⟩
     dsimp only at z1 z2
     rw [z1,z2,fndK_put hne2]
   · have g2' : ∀ {c q},lkIs f t ⟨m.fr,m.to,c,q⟩ = false:=Bool.eq_false_iff.2 fun h2=>g2 (lkIsK_iff.1 h2)
     rw [fndK_put g2',fndK_put g2',fndK_put g1']
end
section
attribute [local simp] instA slice3A slice3C makeSliceA indexA
attribute [-simp] mkv
attribute [local simp] mkv_hd hdA_cons hdA_ob hdA_ob'
def MnP (_ : List UInt8) (r : AV × List ABlk) : Prop := ∃ (l : List Lk) (ds' : List UInt8),NtV 11 22 l ∧ r = (.tup [.agg [.list 4 (l.map lkC)], .ptr 0 0 0 0],[diceB ds'])
theorem nts0_nrm : [[AV.nils]].map (nrmL Try.prog (leafs Try.prog 26)) = [[.list 4 (([] : List Lk).map lkC)]] := by
 rw [nwLeafs]
 simp only [List.map_cons,List.map_nil,nrmL,nrmV,uK,cK]
noncomputable def sdkN : SpecFn := nS Try.prog [26,50] sdkS
theorem sdkN_ok : FnC Try.prog 22 sdkN := sdk_ok.nrm _
theorem sdkN_eq0 (d : Nts) (f t k i m a b c e : Int) : sdkN [.agg [.list 4 (d.ls.map lkC)], .agg (.int .i64 f :: .int .i64 t :: .int .i64 k :: .int .u64 i :: .int .i64 m :: (zO ++ [.int .u64 a, .int .i64 b, .int .u64 c, .int .i64 e]))] [] = some (rN (sndN d.ls ⟨f,t,k,i,m,zOb,a,b,c,e⟩).1 (sndN d.ls ⟨f,t,k,i,m,zOb,a,b,c,e⟩).2,[]) := by
 rw [sdkN,nS_eq]
 simp only [nrmL]
 rw [nw_nrm,show nrmV Try.prog 50 (.agg (.int .i64 f :: .int .i64 t :: .int .i64 k :: .int .u64 i :: .int .i64 m :: (zO ++ [.int .u64 a, .int .i64 b, .int .u64 c, .int .i64 e]))) = .agg (⟨f,t,k,i,m,zOb,a,b,c,e⟩ : Msg).v by rw [nrmV,msg_nrmz]]
 exact sdkS_eq d _
theorem sdkN_eqo (d : Nts) (m : Msg) : sdkN [.agg [.list 4 (d.ls.map lkC)], .agg m.v] [] = some (rN (sndN d.ls m).1 (sndN d.ls m).2,[]) := by
 rw [sdkN,nS_eq]
 simp only [nrmL]
 rw [nw_nrm,show nrmV Try.prog 50 (.agg m.v) = .agg m.v by rw [nrmV,msg_nrm]]
 exact sdkS_eq d m
def dG (l : List UInt8) : ABlk := { gen := 1,kind := 2,elem := 86,size := 1,inl := false,rows := [[.list 1 (l.map byte)]] }
theorem NtV.n {n c : Nat} {ls : List Lk} (h : NtV n c ls) (hn : n ≤ 4096) (hc : c ≤ 100) : ∃ d : Nt8,d.ls = ls := ⟨⟨ls,by have := h.len; omega,h.okK hn⟩,rfl⟩
theorem mdn_ex : ∃ S,FnC Try.prog 7 S ∧ ∀ ds, ∃ r,S (encNw ds).1 (encNw ds).2 = some r ∧ MnP ds r := by
 obtain ⟨SO,hSO,hSOe⟩:=mob_ex
 have sp : ∀ p ∈ ([(16,⟨3,newS⟩),(17,⟨3,diceS⟩),(20,⟨3,idS⟩),(21,⟨3,SO⟩),(18,⟨1,cutS⟩),(19,⟨1,dlvS⟩),(22,⟨1,sdkN⟩)] : NL Spec),FnC Try.prog p.1 p.2.fn:=by
   simp only [List.mem_cons,List.not_mem_nil,or_false]
   rintro p (rfl | rfl | rfl | rfl | rfl | rfl | rfl)
   · exact new_ok
   · exact dice_ok
   · exact id_ok
   · exact hSO
   · exact cut_ok
   · exact dlv_ok
   · exact sdkN_ok
 refine FnC.existsB 7 (fn:=Try.f7) Try.func7 rfl (by kernel_rfl) (fun x b hb=>by simp [encNw] at hb) encNw_inj (fun ds=>⟨_,[],ds,NtV.nil.mono (by omega) (by omega),rfl⟩) fun ds=>?_
 change W _ _ _ _ ⟨81,[(0, .list 1 (ds.map byte))],[]⟩
 have c1:=newS_eq ds
 generalize ds.take 400 = e0 at *
 have d1:=diceS_eq e0 12
 have b1:=dn_lt e0 (n:=12) (by omega)
 have b0:=dn_nonneg e0 12
 generalize dl e0 12 = e1 at *
 obtain ⟨kk,hkk⟩ : ∃ k : Nat,dn e0 12 = k:=⟨_,(Int.toNat_of_nonneg b0).symm⟩
 rw [hkk] at d1 b1
 clear hkk b0
 simp only [diceB] at c1 d1 ⊢
 repeat' (first | intro (hb : _ = _) | refine ZV ?_ | refine ZB tm sp ?_ | refine ZH ?_ ?_ | refine ZJ (by conv=>lhs; simp [c1,d1]) ?_ | refine ZA ?_ ?_)
 refine W.nrmB 96 (leafs Try.prog 26) rfl rfl ?_
 rw [nts0_nrm]
 refine W.loop rfl (ι:={ q : Nat × Nat × List Lk × List UInt8 × NL ABlk // q.1 + q.2.1 ≤ 11 ∧ NtV q.2.1 (2 * q.2.1) q.2.2.1 ∧ lk q.2.2.2.2 48 = some { gen:=1,kind:=2,elem:=26,size:=1,inl:=false,rows:=[[.nils]] } ∧ lk q.2.2.2.2 96 = some { gen:=1,kind:=2,elem:=26,size:=1,inl:=false,rows:=[[.list 4 (q.2.2.1.map lkC)]] } ∧ lk q.2.2.2.2 272 = some (dG q.2.2.2.1) })
   (fun q=>⟨81,[(2, .ptr 48 1 0 0),(4, .ptr 272 1 0 0),(5, .ptr 96 1 0 0),(6, .int .i64 (q.1.1 : Nat))],q.1.2.2.2.2⟩) (fun q=>q.1.1)
   ⟨(kk,0,[],e1,_),by dsimp only; omega,NtV.nil,rfl,rfl,rfl⟩ (AS.le_of rfl ⟨rfl,rfl,rfl,rfl,trivial⟩ (fun _=>rfl)) ?_
 clear c1 d1 b1
 rintro ⟨⟨k,n,l,f,H⟩,hk,hv,h0,h1,h2⟩
 dsimp only at hk hv h0 h1 h2 ⊢
 simp only [dG] at h2
 by_cases hk0 : k = 0
 · subst hk0
   have q1 : ¬ (0 : Int) < 0:=by omega
   repeat' (first | intro (hb : _ = _) | refine ZV ?_ | refine ZB tm sp ?_ | refine ZH ?_ ?_ | refine ZJ (by conv=>lhs; simp [h0,h1,h2,q1]) ?_ | refine ZA ?_ ?_)
   refine ⟨(.tup [.agg [.list 4 (l.map lkC)], .ptr 0 0 0 0],[diceB f]),⟨l,f,hv.mono (by omega) (by omega),rfl⟩, ?_⟩
   exact RetB.raw [272] rfl (by conv=>lhs; simp) (by decide) (by rintro j hj; exact absurd hj (by simp [encNw])) (by simp [lk_st,h2,diceB]) (by simp [h2])
 · have q1 : (0 : Int) < (k : Int):=by omega
   have q1' : 0 < k:=by omega
   have hw : IntKind.i64.wrap ((k : Int) - 1) = ((k - 1 : Nat) : Int):=by rw [w64 (by omega) (by omega)]; omega
   have hwu : IntKind.u64.wrap (k : Int) = (k : Int):=wu64 (by omega) (by omega)
   have da:=diceS_eq f 4
   have db:=diceS_eq (dl f 4) 4
   have dc:=diceS_eq (dl (dl f 4) 4) 5
   have ra : R4 (dn f 4):=⟨dn_nonneg f 4,dn_lt f (n:=4) (by omega)⟩
   have rb : R4 (dn (dl f 4) 4):=⟨dn_nonneg (dl f 4) 4,dn_lt (dl f 4) (n:=4) (by omega)⟩
   have c0:=dn_nonneg (dl (dl f 4) 4) 5
   have c5:=dn_lt (dl (dl f 4) 4) (n:=5) (by omega)
   generalize dl (dl (dl f 4) 4) 5 = f3 at *
   generalize dn (dl (dl f 4) 4) 5 = c at *
   generalize dl (dl f 4) 4 = f2 at *
   generalize dn (dl f 4) 4 = b at *
   generalize dl f 4 = f1 at *
   generalize dn f 4 = a at *
   simp only [diceB] at da db dc
   obtain ⟨d8,hd8⟩:=hv.n (by omega) (by omega)
   have next : ∀ (l2 : List Lk),NtV (n + 1) (2 * n + 2) l2 → NtV (n + 1) (2 * (n + 1)) l2:=fun l2 h=>h.mono (by omega) (by omega)
   have stay:=next l (hv.mono (by omega) (by omega))
   rcases (show c = 0 ∨ c = 1 ∨ (¬ c = 0 ∧ ¬ c = 1) by omega) with rfl | rfl | ⟨x0,x1⟩
   · have dx:=diceS_eq f3 3
     have cu:=fun x=>cutS_eq d8 a b x
     have vu:=fun x=>cut_v hv ra rb x
     generalize dl f3 3 = f4 at *
     generalize dn f3 3 = x at *
     simp only [diceB] at dx
     simp only [Nt8.n,Nts.v,hd8,rN] at cu
     cases hx : decide (0 < x) with
     | true =>
       have cu:=cu true
       have vu:=vu true
       have hx:=of_decide_eq_true hx
       generalize cutN l a b true = R at cu vu
       obtain ⟨l2,e⟩:=R
       dsimp only at cu vu
       by_cases he : e = 0
       · subst he
         have vu:=next l2 ((vu rfl).mono (by omega) (by omega))
         repeat' (first | intro (hb : _ = _) | refine ZV ?_ | refine ZB tm sp ?_ | refine ZH ?_ ?_ | refine ZJ (by conv=>lhs; simp [h0,h1,h2,q1,q1',da,db,dc,dx,hx,cu,hw]) ?_ | refine ZA ?_ ?_)
         exact ⟨⟨(k - 1,n + 1,l2,f4,_),by dsimp only; omega,vu,by simp [lk_st,h0],by simp [lk_st],by simp [lk_st,dG]⟩,by dsimp only; omega,AS.le_of rfl ⟨rfl,rfl,rfl,rfl,trivial⟩ (fun _=>rfl)⟩
       · have he : (e == 0) = false:=by simpa using he
         repeat' (first | intro (hb : _ = _) | refine ZV ?_ | refine ZB tm sp ?_ | refine ZH ?_ ?_ | refine ZJ (by conv=>lhs; simp [h0,h1,h2,q1,q1',da,db,dc,dx,hx,cu,he,hw]) ?_ | refine ZA ?_ ?_)
         exact ⟨⟨(k - 1,n + 1,l,f4,_),by dsimp only; omega,stay,by simp [lk_st,h0],by simp [lk_st,h1],by simp [lk_st,dG]⟩,by dsimp only; omega,AS.le_of rfl ⟨rfl,rfl,rfl,rfl,trivial⟩ (fun _=>rfl)⟩
     | false =>
       have cu:=cu false
       have vu:=vu false
       have hx:=of_decide_eq_false hx
       generalize cutN l a b false = R at cu vu
       obtain ⟨l2,e⟩:=R
       dsimp only at cu vu
       by_cases he : e = 0
       · subst he
         have vu:=next l2 ((vu rfl).mono (by omega) (by omega))
         repeat' (first | intro (hb : _ = _) | refine ZV ?_ | refine ZB tm sp ?_ | refine ZH ?_ ?_ | refine ZJ (by conv=>lhs; simp [h0,h1,h2,q1,q1',da,db,dc,dx,hx,cu,hw]) ?_ | refine ZA ?_ ?_)
         exact ⟨⟨(k - 1,n + 1,l2,f4,_),by dsimp only; omega,vu,by simp [lk_st,h0],by simp [lk_st],by simp [lk_st,dG]⟩,by dsimp only; omega,AS.le_of rfl ⟨rfl,rfl,rfl,rfl,trivial⟩ (fun _=>rfl)⟩
       · have he : (e == 0) = false:=by simpa using he
         repeat' (first | intro (hb : _ = _) | refine ZV ?_ | refine ZB tm sp ?_ | refine ZH ?_ ?_ | refine ZJ (by conv=>lhs; simp [h0,h1,h2,q1,q1',da,db,dc,dx,hx,cu,he,hw]) ?_ | refine ZA ?_ ?_)
         exact ⟨⟨(k - 1,n + 1,l,f4,_),by dsimp only; omega,stay,by simp [lk_st,h0],by simp [lk_st,h1],by simp [lk_st,dG]⟩,by dsimp only; omega,AS.le_of rfl ⟨rfl,rfl,rfl,rfl,trivial⟩ (fun _=>rfl)⟩
   · have cu:=dlvS_eq d8.n a b
     have vu:=fun h=>dlv_v hv (by omega) ra rb (f:=a) (t:=b) h
     simp only [Nt8.n,Nts.v,hd8,rDl] at cu
     generalize dlvN l a b = R at cu vu
     obtain ⟨m,l2,e⟩:=R
     dsimp only at cu vu
     obtain ⟨g1,g2,g3,g4,g5,o,g6,g7,g8,g9⟩:=m
     simp only [Msg.v] at cu
     by_cases he : e = 0
     · subst he
       have vu : NtV (n + 1) (2 * (n + 1)) l2:=by
         obtain ⟨_,_,_,_,h3,h4⟩:=vu rfl
         simp only [Prod.mk.injEq] at h3
         rw [h3.2.1]
         exact next _ (h4.mono (by omega) (by omega))
       repeat' (first | intro (hb : _ = _) | refine ZV ?_ | refine ZB tm sp ?_ | refine ZH ?_ ?_ | refine ZJ (by conv=>lhs; simp [h0,h1,h2,q1,q1',da,db,dc,cu,hw]) ?_ | refine ZA ?_ ?_)
       exact ⟨⟨(k - 1,n + 1,l2,f3,_),by dsimp only; omega,vu,by simp [lk_st,h0],by simp [lk_st],by simp [lk_st,dG]⟩,by dsimp only; omega,AS.le_of rfl ⟨rfl,rfl,rfl,rfl,trivial⟩ (fun _=>rfl)⟩
     · have he : (e == 0) = false:=by simpa using he
       repeat' (first | intro (hb : _ = _) | refine ZV ?_ | refine ZB tm sp ?_ | refine ZH ?_ ?_ | refine ZJ (by conv=>lhs; simp [h0,h1,h2,q1,q1',da,db,dc,cu,he,hw]) ?_ | refine ZA ?_ ?_)
       exact ⟨⟨(k - 1,n + 1,l,f3,_),by dsimp only; omega,stay,by simp [lk_st,h0],by simp [lk_st,h1],by simp [lk_st,dG]⟩,by dsimp only; omega,AS.le_of rfl ⟨rfl,rfl,rfl,rfl,trivial⟩ (fun _=>rfl)⟩
   · have x0 : (c == 0) = false:=by simpa using x0
     have x1 : (c == 1) = false:=by simpa using x1
     have dx:=diceS_eq f3 4
     have y0:=dn_nonneg f3 4
     have y1:=dn_lt f3 (n:=4) (by omega)
     have hw1 : IntKind.i64.wrap (1 + dn f3 4) = 1 + dn f3 4:=w64 (by omega) (by omega)
     have ci:=idS_eq (dl f3 4)
     have dy:=diceS_eq (d3 (dl f3 4)) 3
     generalize dl (d3 (dl f3 4)) 3 = f6 at *
     generalize dn (d3 (dl f3 4)) 3 = z at *
     generalize d3 (dl f3 4) = f5 at *
     generalize idV (dl f3 4) = id at *
     generalize dl f3 4 = f4 at *
     generalize dn f3 4 = y at *
     simp only [diceB] at dx ci dy
     clear y0 y1
     by_cases hz : z = 0
     · subst hz
       obtain ⟨_,cO,o,f7,ok,rfl⟩:=hSOe f6
       simp only [encD1,diceB] at cO
       have cs:=sdkN_eqo d8.n ⟨a,b,1 + y,id,0,o.ob ok,k,0,0,0⟩
       obtain ⟨e1,v1⟩:=snd_v hv (by omega) (m:=⟨a,b,1 + y,id,0,o.ob ok,k,0,0,0⟩) ra rb
       simp only [Nt8.n,hd8,rN] at cs
       rw [e1] at cs
       have v1:=next _ (v1.mono (Nat.le_refl _) (by omega))
       generalize putK _ l = l2 at cs v1
       simp only [Msg.v,Ox.ob,Ox.cells,List.cons_append,List.nil_append] at cs cO
       repeat' (first | intro (hb : _ = _) | refine ZV ?_ | refine ZB tm sp ?_ | refine ZH ?_ ?_ | refine ZJ (by conv=>lhs; simp [h0,h1,h2,q1,q1',da,db,dc,dx,dy,ci,x0,x1,cs,cO,hw,hw1,hwu]) ?_ | refine ZA ?_ ?_)
       exact ⟨⟨(k - 1,n + 1,l2,f7,_),by dsimp only; omega,v1,by simp [lk_st,h0],by simp [lk_st],by simp [lk_st,dG]⟩,by dsimp only; omega,AS.le_of rfl ⟨rfl,rfl,rfl,rfl,trivial⟩ (fun _=>rfl)⟩
     · have hz : (z == 0) = false:=by simpa using hz
       have cs:=sdkN_eq0 d8.n a b (1 + y) id 0 k 0 0 0
       obtain ⟨e1,v1⟩:=snd_v hv (by omega) (m:=⟨a,b,1 + y,id,0,zOb,k,0,0,0⟩) ra rb
       simp only [Nt8.n,hd8,rN] at cs
       rw [e1] at cs
       have v1:=next _ (v1.mono (Nat.le_refl _) (by omega))
       generalize putK _ l = l2 at cs v1
       simp only [zO,List.cons_append,List.nil_append] at cs
       repeat' (first | intro (hb : _ = _) | refine ZV ?_ | refine ZB tm sp ?_ | refine ZH ?_ ?_ | refine ZJ (by conv=>lhs; simp [h0,h1,h2,q1,q1',da,db,dc,dx,dy,ci,x0,x1,cs,hz,hw,hw1,hwu]) ?_ | refine ZA ?_ ?_)
       exact ⟨⟨(k - 1,n + 1,l2,f6,_),by dsimp only; omega,v1,by simp [lk_st,h0],by simp [lk_st],by simp [lk_st,dG]⟩,by dsimp only; omega,AS.le_of rfl ⟨rfl,rfl,rfl,rfl,trivial⟩ (fun _=>rfl)⟩
end
section
attribute [local simp] instA slice3A slice3C makeSliceA indexA
attribute [-simp] mkv
attribute [local simp] mkv_hd hdA_cons hdA_ob hdA_ob'
structure NfI where
 seeds : List UInt8
 node : Int
 h0 : 0 ≤ node
 h1 : node ≤ 255
end
section
attribute [local simp] instA slice3A slice3C makeSliceA indexA
attribute [-simp] mkv
attribute [local simp] mkv_hd hdA_cons hdA_ob hdA_ob'
structure NaI where
 seeds : List UInt8
 a : Int
 b : Int
 c : Int
 d : Int
 ha : 0 ≤ a ∧ a ≤ 255
 hb : 0 ≤ b ∧ b ≤ 255
 hc : 0 ≤ c ∧ c ≤ 255
 hd : 0 ≤ d ∧ d ≤ 255
def encNa (x : NaI) : List AV := [.list 1 (x.seeds.map byte), .int .u8 x.a, .int .u8 x.b, .int .u8 x.c, .int .u8 x.d]
theorem mod4 {n : Int} (h : 0 ≤ n ∧ n ≤ 255) : ∃ k : Int,IntKind.i64.wrap (n.tmod 4) = k ∧ R4 k := ⟨n.tmod 4,by
   rw [Int.tmod_eq_emod_of_nonneg h.1]
   exact w64 (by omega) (by omega),by
   rw [Int.tmod_eq_emod_of_nonneg h.1]
   exact ⟨by omega,by omega⟩⟩
theorem nap_ok : FnC Try.prog 3 (mkS encNa fun _ => (.bool true,[])) := by
 obtain ⟨SM,hSM,hSMe⟩:=mdn_ex
 have sp : ∀ p ∈ ([(6,⟨1,sanS⟩),(7,⟨3,SM⟩),(8,⟨1,sdpN⟩),(9,⟨1,dlpS⟩),(10,⟨1,smeS⟩),(11,⟨1,snwS⟩)] : NL Spec),FnC Try.prog p.1 p.2.fn:=by
   simp only [List.mem_cons,List.not_mem_nil,or_false]
   rintro p (rfl | rfl | rfl | rfl | rfl | rfl)
   · exact san_ok
   · exact hSM
   · exact sdpN_ok
   · exact dlp_ok
   · exact sme_ok
   · exact snw_ok
 refine FnC.walk 3 (fn:=Try.f3) Try.func3 rfl (by kernel_rfl) fun x=>?_
 obtain ⟨seeds,a,b,c,d,ha,hb,hc,hd⟩:=x
 change W _ (Ret _ _ (.bool true) []) _ _ ⟨109,[(0, .list 1 (seeds.map byte)),(1, .int .u8 a),(2, .int .u8 b),(3, .int .u8 c),(4, .int .u8 d)],[]⟩
 have cs:=sanS_eq
 obtain ⟨_,cm,ls,ds,hv,rfl⟩:=hSMe seeds
 simp only [encNw,diceB] at cm
 obtain ⟨i,wi,ri⟩:=mod4 ha
 obtain ⟨j,wj,rj⟩:=mod4 hb
 obtain ⟨k,wk,rk⟩:=mod4 hc
 obtain ⟨l,wl,rl⟩:=mod4 hd
 clear ha hb hc hd hSMe
 repeat' (first | intro (hb : _ = _) | refine ZV ?_ | refine ZB (id:=0) tm sp ?_ | refine ZB (id:=1) tm sp ?_ | refine ZB (id:=2) tm sp ?_ | refine ZB (id:=3) tm sp ?_ | refine ZB (id:=4) tm sp ?_ | refine ZH ?_ ?_ | refine ZJ (by conv=>lhs; simp [cs,cm,wi,wj,wk,wl]) ?_ | refine ZA ?_ ?_)
 have fin : (i == k) = true ∧ (j == l) = true ∨ ((i == k) = true ∧ (j == l) = false ∨ (i == k) = false):=by
   cases i == k <;> cases j == l <;> simp
 rcases fin with ⟨e1,e2⟩ | fin
 · repeat' (first | intro (hb : _ = _) | refine ZV ?_ | refine ZB tm sp ?_ | refine ZH ?_ ?_ | refine ZJ (by conv=>lhs; simp [e1,e2]) ?_ | refine ZA ?_ ?_)
   all_goals (first | refine Yd ?_ | refine Ye ?_)
   all_goals (first | rfl | (simp; done) | (simp_all; done) | (simp_all; omega))
 have hne : ¬ (i = k ∧ j = l):=fun ⟨h1,h2⟩=>by
   subst h1 h2
   simp at fin
 obtain ⟨v1,v2,v3,v4,v5⟩:=apart hv (by omega) (m:=⟨i,j,2,0,0,zOb,77,0,0,0⟩) ri rj rk rl hne
 obtain ⟨d1,h1⟩:=hv.n (by omega) (by omega)
 have cS:=sdpN_eq0 d1 i j 2 0 0 77 0 0 0
 have cD:=dlpS_eq d1 k l
 rw [h1] at cS cD
 generalize sndN ls ⟨i,j,2,0,0,zOb,77,0,0,0⟩ = R at *
 obtain ⟨x,e⟩:=R
 dsimp only at v1 v2 v3 v4 v5
 subst v1
 obtain ⟨d2,h2⟩:=v2.n (by omega) (by omega)
 have cX:=dlpS_eq d2 k l
 rw [h2] at cX
 generalize dlvN x k l = T at *
 generalize dlvN ls k l = U at *
 obtain ⟨p,x',f⟩:=T
 obtain ⟨q,y,g⟩:=U
 dsimp only at v3 v4 v5
 subst v3 v4
 have cP:=smeS_eq p
 obtain ⟨p1,p2,p3,p4,p5,o,p6,p7,p8,p9⟩:=p
 simp only [rDl,rN,Msg.v,zO,List.cons_append,List.nil_append] at cS cD cX cP
 cases hg : (f == 0) with
 | false =>
   have hg : (f != 0) = true:=by simp only [bne,hg]; rfl
   rcases fin with ⟨e1,e2⟩ | e1
   · repeat' (first | intro (hb : _ = _) | refine ZV ?_ | refine ZB tm sp ?_ | refine ZH ?_ ?_ | refine ZJ (by conv=>lhs; simp [e1,e2,cS,cD,cX,cP,hg]) ?_ | refine ZA ?_ ?_)
     all_goals (first | refine Yd ?_ | refine Ye ?_)
     all_goals (first | rfl | (simp; done) | (simp_all; done) | (simp_all; omega))
   · repeat' (first | intro (hb : _ = _) | refine ZV ?_ | refine ZB tm sp ?_ | refine ZH ?_ ?_ | refine ZJ (by conv=>lhs; simp [e1,cS,cD,cX,cP,hg]) ?_ | refine ZA ?_ ?_)
     all_goals (first | refine Yd ?_ | refine Ye ?_)
     all_goals (first | rfl | (simp; done) | (simp_all; done) | (simp_all; omega))
 | true =>
   have hg : f = 0:=by simpa using hg
   subst hg
   obtain ⟨w1,w2,w3,w4⟩:=v5 rfl
   obtain ⟨d3,h3⟩:=w1.n (by omega) (by omega)
   have cZ:=sdpN_eq0 d3 i j 2 0 0 77 0 0 0
   rw [h3] at cZ
   generalize sndN y ⟨i,j,2,0,0,zOb,77,0,0,0⟩ = R at *
   obtain ⟨z,h⟩:=R
   dsimp only at w2 w3 w4
   subst w2 w3
   obtain ⟨d4,h4⟩:=w4.n (by omega) (by omega)
   have cW:=snwS_eq d4.n
   simp only [Nt8.n,Nts.v,h4] at cW
   simp only [rN,zO,List.cons_append,List.nil_append] at cZ
   rcases fin with ⟨e1,e2⟩ | e1
   · repeat' (first | intro (hb : _ = _) | refine ZV ?_ | refine ZB tm sp ?_ | refine ZH ?_ ?_ | refine ZJ (by conv=>lhs; simp [e1,e2,cS,cD,cX,cP,cZ,cW]) ?_ | refine ZA ?_ ?_)
     all_goals (first | refine Yd ?_ | refine Ye ?_)
     all_goals (first | rfl | (simp; done) | (simp_all; done) | (simp_all; omega))
   · repeat' (first | intro (hb : _ = _) | refine ZV ?_ | refine ZB tm sp ?_ | refine ZH ?_ ?_ | refine ZJ (by conv=>lhs; simp [e1,cS,cD,cX,cP,cZ,cW]) ?_ | refine ZA ?_ ?_)
     all_goals (first | refine Yd ?_ | refine Ye ?_)
     all_goals (first | rfl | (simp; done) | (simp_all; done) | (simp_all; omega))
end
section
theorem shU8 {x : AV} (h : TyV Try.prog 9 5 x) : ∃ n : Int,(0 ≤ n ∧ n ≤ 255) ∧ x = .int .u8 n := by
 simp only [TyV,TyR,Try.underlying5,List.cons.injEq,and_true] at h
 obtain ⟨m,rfl,hm⟩:=h
 simp only [Lit.wf,Bool.and_eq_true,decide_eq_true_eq] at hm
 exact ⟨m,⟨hm.1,hm.2⟩,rfl⟩
theorem shSeeds {x : AV} (h : TyV Try.prog 9 22 x) : ∃ l : List UInt8,x = .list 1 (l.map byte) := by
 simp only [TyV,TyR,Try.underlying22,Try.underlying5,vc5,List.cons.injEq,and_true] at h
 obtain ⟨rows,rfl,hl,h⟩:=h
 have : ∀ rows : List (List AV),(∀ row ∈ rows, ∃ m,row = [AV.int .u8 m] ∧ (Lit.int .u8 m).wf = true) → ∃ l : List UInt8,rows = l.map byte:=by
   intro rows
   induction rows with
   | nil=>exact fun _=>⟨[],rfl⟩
   | cons r rs ih =>
     intro h
     obtain ⟨l,hl⟩:=ih fun row hr=>h row (by simp [hr])
     obtain ⟨m,rfl,hm⟩:=h r (by simp)
     simp only [Lit.wf,Bool.and_eq_true,decide_eq_true_eq] at hm
     have h1 : (0 : Int) ≤ m:=hm.1
     have h2 : m ≤ 255:=hm.2
     refine ⟨UInt8.ofNat m.toNat :: l, ?_⟩
     rw [List.map_cons,hl]
     congr 1
     simp only [byte,UInt8.toNat_ofNat',List.cons.injEq,AV.int.injEq,true_and,and_true]
     omega
 obtain ⟨l,rfl⟩:=this rows h
 exact ⟨l,rfl⟩
noncomputable def napS : SpecFn := mkS encNa fun _ => (.bool true,[])
theorem napS_ok : FnC Try.prog 3 napS := nap_ok
theorem napS_eq (l : List UInt8) (a b c d : Int) (ha : 0 ≤ a ∧ a ≤ 255) (hb : 0 ≤ b ∧ b ≤ 255) (hc : 0 ≤ c ∧ c ≤ 255) (hd : 0 ≤ d ∧ d ≤ 255) : napS [.list 1 (l.map byte), .int .u8 a, .int .u8 b, .int .u8 c, .int .u8 d] [] = some (.bool true,[]) := mkS_eq (enc := encNa) (fun _ _ _ => rfl) ⟨l,a,b,c,d,ha,hb,hc,hd⟩
end
end Go.Abs.Nn
