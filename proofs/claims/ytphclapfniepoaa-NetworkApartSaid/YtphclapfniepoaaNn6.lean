/- Directories as plain data: entries put in order, and what is left valid. Conditions: none. -/
import Derived.Test.YtphclapfniepoaaNn5
import Derived.Test.YtphclapfniepoaaNn4
import Derived.Test.YtphclapfniepoaaNn2
namespace Go.Abs.Nn
open Go Go.Proofs Go.Abs
set_option maxRecDepth 100000
set_option maxHeartbeats 4000000
set_option linter.unusedSimpArgs false
set_option linter.unusedVariables false
section
def AscE (l : List En) : Prop := l.Pairwise (fun a b => a.id < b.id)
theorem bsF_spc {c : Nat → Bool} (mono : ∀ j k,j ≤ k → c k = true → c j = true) : ∀ (d lo hi : Nat),hi - lo = d → lo ≤ hi → ∀ k,lo ≤ k → k < hi → (c k = true ↔ k < bsF c lo hi) := by
 intro d
 induction d using Nat.strongRecOn with
 | ind d ih =>
   intro lo hi hd hl k hk1 hk2
   rw [bsF_lt (show lo < hi by omega)]
   cases hc : c ((lo + hi) / 2) with
   | true =>
     rw [if_pos rfl]
     by_cases h : k ≤ (lo + hi) / 2
     · have hb:=(bsF_bd c _ ((lo + hi) / 2 + 1) hi rfl (by omega)).1
       exact ⟨fun _=>by omega,fun _=>mono _ _ h hc⟩
     · exact ih (hi - ((lo + hi) / 2 + 1)) (by omega) ((lo + hi) / 2 + 1) hi rfl (by omega) k (by omega) hk2
   | false =>
     rw [if_neg (by simp)]
     by_cases h : k < (lo + hi) / 2
     · exact ih ((lo + hi) / 2 - lo) (by omega) lo ((lo + hi) / 2) rfl (by omega) k hk1 h
     · have hb:=(bsF_bd c _ lo ((lo + hi) / 2) rfl (by omega)).2
       refine ⟨fun h1=>?_,fun _=>by omega⟩
       rw [mono _ _ (by omega) h1] at hc
       cases hc
theorem bsD_spec {l : List En} {id : Int} (h : AscE l) (k : Nat) (hk : k < l.length) : l[k].id < id ↔ k < bsD l id := by
 have:=bsF_spc (c:=fun k=>match l[k]? with | some t=>decide (t.id < id) | none=>false) (fun i j hij hc=>by
   cases hj : l[j]? with
   | none=>rw [hj] at hc; cases hc
   | some t =>
     rw [hj] at hc
     obtain ⟨h1,rfl⟩:=List.getElem?_eq_some_iff.1 hj
     simp only [decide_eq_true_eq] at hc
     rw [List.getElem?_eq_getElem (show i < l.length by omega)]
     simp only [decide_eq_true_eq]
     by_cases e : i = j
     · subst e; exact hc
     · have:=List.pairwise_iff_getElem.1 h i j (by omega) h1 (by omega)
       omega) _ 0 l.length rfl (by omega) k (by omega) hk
 simp only [List.getElem?_eq_getElem hk,decide_eq_true_eq] at this
 exact this
theorem part (x : En) {l : List En} (h : AscE l) : ∃ L R,l = L ++ R ∧ (∀ e ∈ L,e.id < x.id) ∧ (∀ e ∈ R,x.id ≤ e.id) ∧ L.length = bsD l x.id := by
 have hb:=bsD_le l x.id
 refine ⟨l.take (bsD l x.id),l.drop (bsD l x.id),(List.take_append_drop _ _).symm,fun e he=>?_,fun e he=>?_,by simp; omega⟩
 · obtain ⟨i,hi,rfl⟩:=List.mem_iff_getElem.1 he
   rw [List.length_take] at hi
   rw [List.getElem_take]
   exact (bsD_spec h i (by omega)).2 (by omega)
 · obtain ⟨i,hi,rfl⟩:=List.mem_iff_getElem.1 he
   rw [List.length_drop] at hi
   rw [List.getElem_drop]
   have:=bsD_spec (id:=x.id) h (bsD l x.id + i) (by omega)
   omega
structure Hn (e : En) : Prop where
 id : e.id ≠ 0
 o1 : -1 ≤ e.owner
 o2 : e.owner ≤ 127
 rd : ascN e.readers = true
 wt : ascN e.waiting = true
 ow : e.owner = -1 ∨ (e.readers = [] ∧ zO? e.obj = true)
 ob : oid e.obj = e.id ∨ zO? e.obj = true
 st : ∀ w ∈ e.waiting,w = e.owner ∨ w ∈ e.readers
 qu : ∀ p ∈ e.queue,okN p.1 = true ∧ okM p.2 = true
end
section
def SrtK (l : List Lk) : Prop := l.Pairwise fun a b => befB a b.fr b.to = true
theorem befK_iff {l : Lk} {f t : Int} : befB l f t = true ↔ l.fr < f ∨ (l.fr = f ∧ l.to < t) := by simp [befB]
theorem lkIsK_iff {f t : Int} {l : Lk} : lkIs f t l = true ↔ l.fr = f ∧ l.to = t := by simp [lkIs]
theorem validK_srt {l : List Lk} (h : validK l = true) : SrtK l := by
 have hg : ∀ k,k < l.length → goodK l k = true:=fun k hk=>by
   unfold validK at h
   rw [List.all_eq_true] at h
   exact h k (List.mem_range.2 hk)
 have hadj : ∀ i (h1 : i + 1 < l.length),befB (l[i]'(by omega)) l[i + 1].fr l[i + 1].to = true:=fun i h1=>by
   have:=hg (i + 1) h1
   unfold goodK at this
   rw [List.getElem?_eq_getElem h1] at this
   simp only [List.getElem?_eq_getElem (show i < l.length by omega),Bool.and_eq_true] at this
   exact this.2.2
 have hlt : ∀ d i (h1 : i + 1 + d < l.length),befB (l[i]'(by omega)) l[i + 1 + d].fr l[i + 1 + d].to = true:=by
   intro d
   induction d with
   | zero=>exact hadj
   | succ d ih =>
     intro i h1
     have a:=befK_iff.1 (ih i (by omega))
     have b:=befK_iff.1 (hadj (i + 1 + d) (by omega))
     have e : i + 1 + (d + 1) = i + 1 + d + 1:=by omega
     simp only [e]
     rw [befK_iff]
     omega
 rw [SrtK,List.pairwise_iff_getElem]
 intro i j hi hj hij
 have:=hlt (j - i - 1) i (by omega)
 have e : i + 1 + (j - i - 1) = j:=by omega
 simp only [e] at this
 exact this
theorem bsN_le (l : List Lk) (f t : Int) : bsN l f t ≤ l.length := (bsF_bd _ _ 0 l.length rfl (by omega)).2
theorem bsN_spec {l : List Lk} (h : SrtK l) (f t : Int) (k : Nat) (hk : k < l.length) : befB l[k] f t = true ↔ k < bsN l f t := by
 have:=bsF_spc (c:=fun k=>match l[k]? with | some x=>befB x f t | none=>false) (fun i j hij hc=>by
   cases hj : l[j]? with
   | none=>rw [hj] at hc; cases hc
   | some y =>
     rw [hj] at hc
     obtain ⟨hj1,rfl⟩:=List.getElem?_eq_some_iff.1 hj
     rw [List.getElem?_eq_getElem (show i < l.length by omega)]
     dsimp only
     by_cases e : i = j
     · subst e; exact hc
     · have:=List.pairwise_iff_getElem.1 h i j (by omega) hj1 (by omega)
       rw [befK_iff] at this hc ⊢
       omega) l.length 0 l.length rfl (by omega) k (by omega) hk
 simp only [List.getElem?_eq_getElem hk] at this
 exact this
theorem partK {l : List Lk} (h : SrtK l) (f t : Int) : ∃ A B,l = A ++ B ∧ A.length = bsN l f t ∧ (∀ x ∈ A,befB x f t = true) ∧ (∀ x ∈ B,befB x f t = false) ∧ SrtK B := by
 have hle:=bsN_le l f t
 refine ⟨l.take (bsN l f t),l.drop (bsN l f t),(List.take_append_drop _ _).symm,by rw [List.length_take]; omega,fun x hx=>?_,fun x hx=>?_,List.Pairwise.sublist (List.drop_sublist _ _) h⟩
 · obtain ⟨k,hk,rfl⟩:=List.mem_iff_getElem.1 hx
   rw [List.length_take] at hk
   rw [List.getElem_take]
   exact (bsN_spec h f t k (by omega)).2 (by omega)
 · obtain ⟨k,hk,rfl⟩:=List.mem_iff_getElem.1 hx
   rw [List.length_drop] at hk
   rw [List.getElem_drop]
   refine Bool.eq_false_iff.2 fun c=>?_
   have:=(bsN_spec h f t _ (by omega)).1 c
   omega
theorem othK_id {y : Lk} {l : List Lk} (h : ∀ x ∈ l,lkIs y.fr y.to x = false) : othK y l = l := by
 unfold othK
 rw [List.filter_eq_self]
 intro x hx
 have:=h x hx
 simp only [lkIs,Bool.and_eq_false_iff,beq_eq_false_iff_ne,ne_eq] at this
 simp only [Bool.or_eq_true,bne_iff_ne,ne_eq]
 exact this
theorem putP_app {y : Lk} : ∀ {A B : List Lk},(∀ x ∈ A,befB x y.fr y.to = true) → putP y (A ++ B) = A ++ putP y B
 | [],B,_=>rfl
 | a :: A,B,h=>by
   rw [List.cons_append,putP,if_pos (h a (by simp)),putP_app fun x hx=>h x (by simp [hx])]
   rfl
theorem bef_is {x : Lk} {f t : Int} (h : befB x f t = true) : lkIs f t x = false := by
 refine Bool.eq_false_iff.2 fun c=>?_
 rw [befK_iff] at h
 rw [lkIsK_iff] at c
 omega
theorem find_none {p : Lk → Bool} {A B : List Lk} (h : ∀ x ∈ A,p x = false) : (A ++ B).find? p = B.find? p := by
 rw [List.find?_append,List.find?_eq_none.2 fun x hx=>by rw [h x hx]; decide]
 rfl
theorem chg_found {l : List Lk} {f t : Int} {x : Lk} (hs : SrtK l) (hx : l[bsN l f t]? = some x) (hh : hasN l (bsN l f t) f t = true) : fndK f t l = x ∧ x.fr = f ∧ x.to = t ∧ ∀ y : Lk,y.fr = f → y.to = t → chgR l (bsN l f t) y = putK y l := by
 obtain ⟨A,B,e1,e2,e3,e4,e5⟩:=partK hs f t
 have hxi : lkIs f t x = true:=by simpa [hasN,hx] using hh
 rw [← e2] at hx ⊢
 have hB : ∃ r,B = x :: r:=by
   rw [e1,List.getElem?_append_right (Nat.le_refl _),Nat.sub_self] at hx
   cases B with
   | nil=>simp at hx
   | cons z r =>
     simp only [List.getElem?_cons_zero,Option.some.injEq] at hx
     exact ⟨r,by rw [hx]⟩
 obtain ⟨r,rfl⟩:=hB
 obtain ⟨e6,e7⟩:=List.pairwise_cons.1 e5
 obtain ⟨i1,i2⟩:=lkIsK_iff.1 hxi
 have hr : ∀ z ∈ r,lkIs f t z = false:=fun z hz=>by
   have:=befK_iff.1 (e6 z hz)
   refine Bool.eq_false_iff.2 fun c=>?_
   rw [lkIsK_iff] at c
   omega
 refine ⟨?_,i1,i2,fun y y1 y2=>?_⟩
 · unfold fndK
   rw [e1,find_none fun z hz=>bef_is (e3 z hz),List.find?_cons,hxi]
   rfl
 · have hA : ∀ z ∈ A,befB z y.fr y.to = true:=fun z hz=>by rw [y1,y2]; exact e3 z hz
   have hR : ∀ z ∈ r,lkIs y.fr y.to z = false:=fun z hz=>by rw [y1,y2]; exact hr z hz
   have ho : othK y (x :: r) = r:=by
     have : othK y (x :: r) = othK y r:=by
       unfold othK
       rw [List.filter_cons,if_neg]
       simp [i1,i2,y1,y2]
     rw [this,othK_id hR]
   unfold chgR putK restK
   rw [e1]
   split
   · have : othK y (A ++ x :: r) = othK y A ++ othK y (x :: r):=List.filter_append ..
     rw [this,ho,othK_id fun z hz=>bef_is (hA z hz)]
     simp
   · rw [putP_app hA,putP,if_neg,ho]
     · simp
     · rw [y1,y2,e4 x (by simp)]
       decide
theorem chg_none {l : List Lk} {f t : Int} (hs : SrtK l) (hh : hasN l (bsN l f t) f t = false) : fndK f t l = ⟨f,t,false,[]⟩ ∧ ∀ z y : Lk,y.fr = f → y.to = t → chgR (l.take (bsN l f t) ++ z :: l.drop (bsN l f t)) (bsN l f t) y = putK y l := by
 obtain ⟨A,B,e1,e2,e3,e4,e5⟩:=partK hs f t
 have hB : ∀ z ∈ B,lkIs f t z = false:=by
   cases B with
   | nil=>intro z hz; cases hz
   | cons b r =>
     have hb : lkIs f t b = false:=by
       have : l[bsN l f t]? = some b:=by rw [← e2,e1,List.getElem?_append_right (Nat.le_refl _),Nat.sub_self]; rfl
       simpa [hasN,this] using hh
     obtain ⟨e6,e7⟩:=List.pairwise_cons.1 e5
     intro z hz
     rcases List.mem_cons.1 hz with rfl | hz
     · exact hb
     · have h1:=befK_iff.1 (e6 z hz)
       have h2 : ¬ befB b f t = true:=by rw [e4 b (by simp)]; decide
       have h3 : ¬ lkIs f t b = true:=by rw [hb]; decide
       rw [befK_iff] at h2
       rw [lkIsK_iff] at h3
       refine Bool.eq_false_iff.2 fun c=>?_
       rw [lkIsK_iff] at c
       omega
 have hAll : ∀ z ∈ l,lkIs f t z = false:=fun z hz=>by
   rw [e1] at hz
   rcases List.mem_append.1 hz with hz | hz
   · exact bef_is (e3 z hz)
   · exact hB z hz
 have t1 : l.take (bsN l f t) = A:=by rw [e1]; rw [e1] at e2; rw [← e2]; simp
 have t2 : l.drop (bsN l f t) = B:=by rw [e1]; rw [e1] at e2; rw [← e2]; simp
 refine ⟨?_,fun z y y1 y2=>?_⟩
 · unfold fndK
   rw [List.find?_eq_none.2 fun z hz=>by rw [hAll z hz]; decide]
   rfl
 · have hA : ∀ z ∈ A,befB z y.fr y.to = true:=fun z hz=>by rw [y1,y2]; exact e3 z hz
   rw [t1,t2, ← e2]
   unfold chgR putK restK
   split
   · rw [othK_id (by rw [y1,y2]; exact hAll),e1]
     simp
   · rw [e1,putP_app hA]
     have : putP y B = y :: B:=by
       cases B with
       | nil=>rfl
       | cons b r =>
         rw [putP,if_neg (by rw [y1,y2,e4 b (by simp)]; decide),othK_id (by rw [y1,y2]; exact hB)]
     rw [this]
     simp
theorem srt_part {l : List Lk} (hs : SrtK l) (y : Lk) : SrtK (putK y l) := by
 obtain ⟨A,B,e1,e2,e3,e4,e5⟩:=partK hs y.fr y.to
 have hs':=hs
 rw [e1] at hs'
 obtain ⟨s1,s2,s3⟩:=List.pairwise_append.1 hs'
 unfold putK restK
 split
 · exact List.Pairwise.filter _ hs
 · rw [e1,putP_app e3]
   have hsub : (othK y B).Sublist B:=List.filter_sublist
   have hp : putP y B = y :: othK y B:=by
     cases B with
     | nil=>rfl
     | cons b r=>rw [putP,if_neg (by rw [e4 b (by simp)]; decide)]
   rw [hp]
   refine List.pairwise_append.2 ⟨s1,List.pairwise_cons.2 ⟨fun z hz=>?_,s2.sublist hsub⟩,fun a ha b hb=>?_⟩
   · unfold othK at hz
     obtain ⟨hz1,hz2⟩:=List.mem_filter.1 hz
     have h4 : ¬ befB z y.fr y.to = true:=by rw [e4 z hz1]; decide
     rw [befK_iff] at h4 ⊢
     simp only [Bool.or_eq_true,bne_iff_ne,ne_eq] at hz2
     omega
   · rcases List.mem_cons.1 hb with rfl | hb
     · exact e3 a ha
     · exact s3 a ha b (hsub.subset hb)
end
section
abbrev NtS := {d : Nts // SrtK d.ls ∧ d.ls.length ≤ 8999}
theorem NtS.inj {a b : NtS} (h : a.1.ls = b.1.ls) : a = b := by
 obtain ⟨⟨l,h1,h2⟩,h3⟩:=a
 obtain ⟨⟨l',h1',h2'⟩,h3'⟩:=b
 cases h
 rfl
theorem fnd_at {l : List Lk} {f t : Int} (hh : hasN l (bsN l f t) f t = true) : ∃ x,l[bsN l f t]? = some x := by
 unfold hasN at hh
 cases h : l[bsN l f t]? with
 | none=>rw [h] at hh; cases hh
 | some x=>exact ⟨x,rfl⟩
noncomputable def sndL (l : List Lk) (f t : Int) (m : Msg) : List Lk := putK { fndK f t l with q := (fndK f t l).q ++ [m] } l
def encCS (d : NtS × Int × Int × Msg) : List AV × List ABlk := ([.agg [.list 4 (d.1.1.ls.map lkC)], .int .i64 d.2.1, .int .i64 d.2.2.1, .fn (.func 27) [] [.ptr 0 0 0 0]],[mB d.2.2.2])
noncomputable def chsS : SpecFn := mkS2 encCS fun d => (.agg [.list 4 ((sndL d.1.1.ls d.2.1 d.2.2.1 d.2.2.2).map lkC)],[mB d.2.2.2])
theorem chsS_eq (d : NtS) (f t : Int) (m : Msg) : chsS [.agg [.list 4 (d.1.ls.map lkC)], .int .i64 f, .int .i64 t, .fn (.func 27) [] [.ptr 0 0 0 0]] [mB m] = some (.agg [.list 4 ((sndL d.1.ls f t m).map lkC)],[mB m]) :=
 mkS2_eq (enc:=encCS) (res:=fun d=>(.agg [.list 4 ((sndL d.1.1.ls d.2.1 d.2.2.1 d.2.2.2).map lkC)],[mB d.2.2.2])) (fun x y h=>by
   obtain ⟨a,b,c,m⟩:=x
   obtain ⟨a',b',c',m'⟩:=y
   simp only [encCS,Prod.mk.injEq,List.cons.injEq,AV.agg.injEq,AV.list.injEq,AV.int.injEq,true_and,and_true] at h
   obtain ⟨⟨h1,rfl,rfl⟩,h2⟩:=h
   rw [NtS.inj (lks_inj h1),mB_inj h2]) (d,f,t,m)
theorem chs_ok : FnC Try.prog 26 chsS := by
 refine FnC.walkBN 26 (fn:=Try.f26) [26] Try.func26 rfl (by kernel_rfl) (fun x b hb=>by simp [encCS] at hb; rw [hb]; rfl) (fun d=>?_) (fun d=>⟨_,lks_nrm _⟩)
 obtain ⟨⟨⟨l,lh,lq⟩,hs,l8⟩,f,t,m⟩:=d
 dsimp only at hs l8
 change W _ (RetBN _ _ _ 1 (.agg [.list 4 ((sndL l f t m).map lkC)]) [mB m]) _ _ ⟨59,[(0, .agg [.list 4 (l.map lkC)]),(1, .int .i64 f),(2, .int .i64 t),(3, .fn (.func 27) [] [.ptr 0 0 0 0])],[(0,mB m)]⟩
 cases hh : hasN l (bsN l f t) f t with
 | true =>
   obtain ⟨x,hx⟩:=fnd_at hh
   obtain ⟨e1,e2,e3,e4⟩:=chg_found hs hx hh
   have e5:=e4 { x with q:=x.q ++ [m] } e2 e3
   rw [sndL,e1, ← e5]
   exact chSQ_w l l8 lq f t _ rfl x hx hh m _ rfl
 | false =>
   obtain ⟨e1,e4⟩:=chg_none hs hh
   have e5:=e4 ⟨f,t,false,[]⟩ ⟨f,t,false,[m]⟩ rfl rfl
   rw [sndL,e1]
   show W _ (RetBN _ _ _ 1 (.agg [.list 4 ((putK ⟨f,t,false,[m]⟩ l).map lkC)]) [mB m]) _ _ _
   rw [← e5]
   exact chSN_w l l8 lq f t _ rfl hh (bsN_le _ _ _) _ rfl _ rfl m _ rfl
def encCD (d : {d : (NtS × Int × Int) × Msg × List Msg // (fndK d.1.2.1 d.1.2.2 d.1.1.1.ls).q = d.2.1 :: d.2.2}) : List AV × List ABlk := ([.agg [.list 4 (d.1.1.1.1.ls.map lkC)], .int .i64 d.1.1.2.1, .int .i64 d.1.1.2.2, .fn (.func 28) [] [.ptr 0 0 0 0]],[mzB])
noncomputable def dlvL (l : List Lk) (f t : Int) (r : List Msg) : List Lk := putK { fndK f t l with q := r } l
noncomputable def chdS : SpecFn := mkS2 encCD fun d => (.agg [.list 4 ((dlvL d.1.1.1.1.ls d.1.1.2.1 d.1.1.2.2 d.1.2.2).map lkC)],[mB d.1.2.1])
theorem chdS_eq (d : NtS) (f t : Int) (m : Msg) (r : List Msg) (h : (fndK f t d.1.ls).q = m :: r) : chdS [.agg [.list 4 (d.1.ls.map lkC)], .int .i64 f, .int .i64 t, .fn (.func 28) [] [.ptr 0 0 0 0]] [mzB] = some (.agg [.list 4 ((dlvL d.1.ls f t r).map lkC)],[mB m]) :=
 mkS2_eq (enc:=encCD) (res:=fun d=>(.agg [.list 4 ((dlvL d.1.1.1.1.ls d.1.1.2.1 d.1.1.2.2 d.1.2.2).map lkC)],[mB d.1.2.1])) (fun x y h=>by
   obtain ⟨⟨⟨a,b,c⟩,m,r⟩,hx⟩:=x
   obtain ⟨⟨⟨a',b',c'⟩,m',r'⟩,hy⟩:=y
   simp only [encCD,Prod.mk.injEq,List.cons.injEq,AV.agg.injEq,AV.list.injEq,AV.int.injEq,true_and,and_true] at h
   obtain ⟨h1,rfl,rfl⟩:=h
   cases NtS.inj (lks_inj h1)
   dsimp only at hx hy
   rw [hx] at hy
   cases hy
   rfl) ⟨((d,f,t),m,r),h⟩
theorem chd_ok : FnC Try.prog 26 chdS := by
 refine FnC.walkBN 26 (fn:=Try.f26) [26] Try.func26 rfl (by kernel_rfl) (fun x b hb=>by simp [encCD] at hb; rw [hb]; rfl) (fun d=>?_) (fun d=>⟨_,lks_nrm _⟩)
 obtain ⟨⟨⟨⟨⟨l,lh,lq⟩,hs,l8⟩,f,t⟩,m,r⟩,hq⟩:=d
 dsimp only at hs l8 hq
 change W _ (RetBN _ _ _ 1 (.agg [.list 4 ((dlvL l f t r).map lkC)]) [mB m]) _ _ ⟨59,[(0, .agg [.list 4 (l.map lkC)]),(1, .int .i64 f),(2, .int .i64 t),(3, .fn (.func 28) [] [.ptr 0 0 0 0])],[(0,mzB)]⟩
 cases hh : hasN l (bsN l f t) f t with
 | true =>
   obtain ⟨x,hx⟩:=fnd_at hh
   obtain ⟨e1,e2,e3,e4⟩:=chg_found hs hx hh
   have e5:=e4 { x with q:=r } e2 e3
   rw [e1] at hq
   rw [dlvL,e1, ← e5]
   exact chDQ_w l l8 lq f t _ rfl x hx hh m r hq _ rfl
 | false =>
   obtain ⟨e1,e4⟩:=chg_none hs hh
   rw [e1] at hq
   cases hq
def encCC (d : NtS × Int × Int × Bool) : List AV × List ABlk := ([.agg [.list 4 (d.1.1.ls.map lkC)], .int .i64 d.2.1, .int .i64 d.2.2.1, .fn (.func 30) [] [.ptr 0 0 0 0]],[cB d.2.2.2])
noncomputable def cutL (l : List Lk) (f t : Int) (c : Bool) : List Lk := putK { fndK f t l with cut := c } l
noncomputable def chcS : SpecFn := mkS2 encCC fun d => (.agg [.list 4 ((cutL d.1.1.ls d.2.1 d.2.2.1 d.2.2.2).map lkC)],[cB d.2.2.2])
theorem chcS_eq (d : NtS) (f t : Int) (c : Bool) : chcS [.agg [.list 4 (d.1.ls.map lkC)], .int .i64 f, .int .i64 t, .fn (.func 30) [] [.ptr 0 0 0 0]] [cB c] = some (.agg [.list 4 ((cutL d.1.ls f t c).map lkC)],[cB c]) :=
 mkS2_eq (enc:=encCC) (res:=fun d=>(.agg [.list 4 ((cutL d.1.1.ls d.2.1 d.2.2.1 d.2.2.2).map lkC)],[cB d.2.2.2])) (fun x y h=>by
   obtain ⟨a,b,c,m⟩:=x
   obtain ⟨a',b',c',m'⟩:=y
   simp only [encCC,cB,Prod.mk.injEq,List.cons.injEq,AV.agg.injEq,AV.list.injEq,AV.int.injEq,ABlk.mk.injEq,AV.bool.injEq,true_and,and_true] at h
   obtain ⟨⟨h1,rfl,rfl⟩,rfl⟩:=h
   rw [NtS.inj (lks_inj h1)]) (d,f,t,c)
theorem chc_ok : FnC Try.prog 26 chcS := by
 refine FnC.walkBN 26 (fn:=Try.f26) [26] Try.func26 rfl (by kernel_rfl) (fun x b hb=>by simp [encCC] at hb; rw [hb]; rfl) (fun d=>?_) (fun d=>⟨_,lks_nrm _⟩)
 obtain ⟨⟨⟨l,lh,lq⟩,hs,l8⟩,f,t,c⟩:=d
 dsimp only at hs l8
 change W _ (RetBN _ _ _ 1 (.agg [.list 4 ((cutL l f t c).map lkC)]) [cB c]) _ _ ⟨59,[(0, .agg [.list 4 (l.map lkC)]),(1, .int .i64 f),(2, .int .i64 t),(3, .fn (.func 30) [] [.ptr 0 0 0 0])],[(0,cB c)]⟩
 cases hh : hasN l (bsN l f t) f t with
 | true =>
   obtain ⟨x,hx⟩:=fnd_at hh
   obtain ⟨e1,e2,e3,e4⟩:=chg_found hs hx hh
   have e5:=e4 { x with cut:=c } e2 e3
   rw [cutL,e1, ← e5]
   exact chCQ_w l l8 lq f t _ rfl x hx hh c _ rfl
 | false =>
   obtain ⟨e1,e4⟩:=chg_none hs hh
   have e5:=e4 ⟨f,t,false,[]⟩ ⟨f,t,c,[]⟩ rfl rfl
   rw [cutL,e1]
   show W _ (RetBN _ _ _ 1 (.agg [.list 4 ((putK ⟨f,t,c,[]⟩ l).map lkC)]) [cB c]) _ _ _
   rw [← e5]
   exact chCN_w l l8 lq f t _ rfl hh (bsN_le _ _ _) _ rfl _ rfl c _ rfl
def encCF (d : {d : NtS × Int × Int // hasN d.1.1.ls (bsN d.1.1.ls d.2.1 d.2.2) d.2.1 d.2.2 = true}) : List AV × List ABlk := ([.agg [.list 4 (d.1.1.1.ls.map lkC)], .int .i64 d.1.2.1, .int .i64 d.1.2.2, .fn (.func 32) [] []],[])
noncomputable def fgtL1 (l : List Lk) (f t : Int) : List Lk := putK { fndK f t l with q := [] } l
noncomputable def chfS : SpecFn := mkS2 encCF fun d => (.agg [.list 4 ((fgtL1 d.1.1.1.ls d.1.2.1 d.1.2.2).map lkC)],[])
end
section
attribute [local simp] instA slice3A slice3C
attribute [-simp] mkv
attribute [local simp] mkv_hd hdA_cons hdA_ob hdA_ob'
def rN (l : List Lk) (e : Int) : AV := .tup [.agg [.list 4 (l.map lkC)], .int .i64 e]
theorem rN_nrm (l : List Lk) (e : Int) : nrmR Try.prog [26,51] (rN l e) = rN l e := by
 simp only [rN,nrmR,nrmL,nrmV,nwLeafs,uK,nrmRows_map lkC_nrm]
theorem rN_nrm0 (e : Int) : nrmR Try.prog [26,51] (.tup [.agg [.nils], .int .i64 e]) = rN [] e := by
 simp only [rN,nrmR,nrmL,nrmV,nwLeafs,uK,cK,List.map_nil]
noncomputable def sndN (ls : List Lk) (m : Msg) : List Lk × Int :=
 if validK ls = false then ([],1) else if (!okN m.fr || !okN m.to) = true then ([],2) else
   let l:=fndK m.fr m.to ls
   if 4096 ≤ l.q.length then ([],9) else (putK ⟨l.fr,l.to,l.cut,l.q ++ [m]⟩ ls,0)
noncomputable def sdkS : SpecFn := mkS (fun d : Nts × Msg => [d.1.v, .agg d.2.v]) fun d => (rN (sndN d.1.ls d.2).1 (sndN d.1.ls d.2).2,[])
theorem msgv1_inj {a b : Msg} (h : a.v = b.v) : a = b := by
 have:=msgv_inj (l:=[a]) (m:=[b]) (by simp only [List.map_cons,List.map_nil,h])
 simpa using this
theorem sdkS_eq (d : Nts) (m : Msg) : sdkS [d.v, .agg m.v] [] = some (rN (sndN d.ls m).1 (sndN d.ls m).2,[]) :=
 mkS_eq (enc:=fun d : Nts × Msg=>[d.1.v,AV.agg d.2.v]) (res:=fun d=>(rN (sndN d.1.ls d.2).1 (sndN d.1.ls d.2).2,[])) (fun x y h=>by
   obtain ⟨a,b⟩:=x
   obtain ⟨a',b'⟩:=y
   simp only [List.cons.injEq,AV.agg.injEq,and_true] at h
   cases Nts.v_inj h.1
   cases msgv1_inj h.2
   rfl) (d,m)
theorem fndK_ok {ls : List Lk} (he : ∀ l ∈ ls,okK l) (f t : Int) : okK (fndK f t ls) := by
 unfold fndK
 cases hf : ls.find? (lkIs f t) with
 | none=>exact Nat.zero_le _
 | some e=>exact he e (List.mem_of_find?_eq_some hf)
noncomputable def sdk_specs : NL Spec := [(36,⟨1,vkS⟩),(37,⟨1,boS okN⟩),(38,⟨1,fnkS⟩),(39,⟨1,ptlS⟩)]
theorem sdk_specs_ok : ∀ p ∈ sdk_specs,FnC Try.prog p.1 p.2.fn := by
 simp only [sdk_specs,List.mem_cons,List.not_mem_nil,or_false]
 rintro p (rfl | rfl | rfl | rfl)
 · exact rvk21_ok
 · exact nnode_ok
 · exact fnk_ok
 · exact ptl_ok
attribute [local simp] sdk_specs
theorem sdk_ok : FnC Try.prog 22 sdkS := by
 refine FnC.walkN 22 (fn:=Try.f22) [26,51] Try.func22 rfl (by kernel_rfl) (fun x=>?_) (fun x=>⟨_,rN_nrm _ _⟩)
 obtain ⟨⟨l,hl,he⟩,⟨u1,u2,u3,u4,u5,mo,u6,u7,u8,u9⟩⟩:=x
 have cv:=vkS_eq ⟨l,hl,he⟩
 have c1:=boS_eq okN u1
 have c2:=boS_eq okN u2
 have ce:=fnkS_eq ⟨l,hl,he⟩ u1 u2
 simp only [Nts.v] at cv ce
 change W _ (RetNf _ _ _ (rN (sndN l ⟨u1,u2,u3,u4,u5,mo,u6,u7,u8,u9⟩).1 (sndN l ⟨u1,u2,u3,u4,u5,mo,u6,u7,u8,u9⟩).2) []) _ _ ⟨43,[(0, .agg [.list 4 (l.map lkC)]),(1, .agg (.int .i64 u1 :: .int .i64 u2 :: .int .i64 u3 :: .int .u64 u4 :: .int .i64 u5 :: (mo.cells ++ [.int .u64 u6, .int .i64 u7, .int .u64 u8, .int .i64 u9])))],[]⟩
 generalize hR : sndN l ⟨u1,u2,u3,u4,u5,mo,u6,u7,u8,u9⟩ = R
 unfold sndN at hR
 dsimp only at hR
 cases hv : validK l with
 | false =>
   rw [if_pos hv] at hR
   subst hR
   rw [hv] at cv
   repeat' (first | intro (hb : _ = _) | refine ZV ?_ | refine ZB tm sdk_specs_ok ?_ | refine ZH ?_ ?_ | refine ZJ (by conv=>lhs; simp [cv]) ?_ | refine ZA ?_ ?_)
   refine Ye ?_
   exact rN_nrm0 1
 | true =>
   rw [if_neg (by simp [hv])] at hR
   rw [hv] at cv
   cases hn1 : okN u1 with
   | false =>
     rw [if_pos (by simp [hn1])] at hR
     subst hR
     rw [hn1] at c1
     repeat' (first | intro (hb : _ = _) | refine ZV ?_ | refine ZB tm sdk_specs_ok ?_ | refine ZH ?_ ?_ | refine ZJ (by conv=>lhs; simp [cv,c1]) ?_ | refine ZA ?_ ?_)
     refine Ye ?_
     exact rN_nrm0 2
   | true =>
     rw [hn1] at c1
     cases hn2 : okN u2 with
     | false =>
       rw [if_pos (by simp [hn2])] at hR
       subst hR
       rw [hn2] at c2
       repeat' (first | intro (hb : _ = _) | refine ZV ?_ | refine ZB tm sdk_specs_ok ?_ | refine ZH ?_ ?_ | refine ZJ (by conv=>lhs; simp [cv,c1,c2]) ?_ | refine ZA ?_ ?_)
       refine Ye ?_
       exact rN_nrm0 2
     | true =>
       rw [hn2] at c2
       rw [if_neg (by simp [hn1,hn2])] at hR
       have oe:=fndK_ok he u1 u2
       generalize fndK u1 u2 l = e at *
       obtain ⟨e1,e2,e3,q⟩:=e
       unfold okK at oe
       dsimp only at oe hR
       simp only [lkC] at ce
       have y4 : q.length ≤ 9223372036854775807:=by omega
       by_cases hb : 4096 ≤ q.length
       · rw [if_pos hb] at hR
         subst hR
         have b1 : (4096 : Int) ≤ q.length:=by omega
         repeat' (first | intro (hb : _ = _) | refine ZV ?_ | refine ZB tm sdk_specs_ok ?_ | refine ZH ?_ ?_ | refine ZJ (by conv=>lhs; simp [cv,c1,c2,ce,y4,b1]) ?_ | refine ZA ?_ ?_)
         refine Ye ?_
         exact rN_nrm0 9
       · rw [if_neg hb] at hR
         have b1 : ¬ (4096 : Int) ≤ q.length:=by omega
         obtain ⟨Q,hQ⟩ : ∃ Q,q ++ [(⟨u1,u2,u3,u4,u5,mo,u6,u7,u8,u9⟩ : Msg)] = Q:=⟨_,rfl⟩
         have hQl : Q.length = q.length + 1:=by rw [← hQ]; simp
         have hQm : q.map Msg.v ++ [.int .i64 u1 :: .int .i64 u2 :: .int .i64 u3 :: .int .u64 u4 :: .int .i64 u5 :: (mo.cells ++ [.int .u64 u6, .int .i64 u7, .int .u64 u8, .int .i64 u9])] = Q.map Msg.v:=by rw [← hQ]; simp
         rw [hQ] at hR
         have cP:=ptlS_eq ⟨⟨l,hl,he⟩,⟨e1,e2,e3,Q⟩,by unfold okK; dsimp only; omega⟩
         simp only [Nts.v,lkC] at cP
         generalize putK ⟨e1,e2,e3,Q⟩ l = L at *
         subst hR
         have y5 : q.length * 536 ≤ 140737488355328:=by omega
         have y1 : q.length ≤ maxLen:=by simp only [maxLen]; omega
         have y2 : (q.length + 1) * 536 ≤ 140737488355328:=by omega
         have y3 : q.length + 1 ≤ maxLen:=by simp only [maxLen]; omega
         have fq : firstRows q.length (q.map Msg.v) = q.map Msg.v:=first_all (by simp)
         have tq : List.take q.length (q.map Msg.v) = q.map Msg.v:=List.take_of_length_le (by simp)
         have t4 : List.take (q.length + 1) (Q.map Msg.v) = Q.map Msg.v:=List.take_of_length_le (by simp; omega)
         clear hb hQ oe hn1 hn2 hv
         repeat' (first | intro (hb : _ = _) | refine ZV ?_ | refine ZB tm sdk_specs_ok ?_ | refine ZH ?_ ?_ | refine ZJ (by conv=>lhs; simp [cv,c1,c2,ce,b1,y1,y2,y3,y4,y5,fq,tq,t4,hQl,hQm,m1,cP]) ?_ | refine ZA ?_ ?_)
         refine Ye ?_
         exact rN_nrm L 0
noncomputable def mz : Msg := ⟨0,0,0,0,0,zOb,0,0,0,0⟩
def rDl (m : Msg) (l : List Lk) (e : Int) : AV := .tup [.agg m.v, .agg [.list 4 (l.map lkC)], .int .i64 e]
theorem rDl_nrm (m : Msg) (l : List Lk) (e : Int) : nrmR Try.prog [50,26,51] (rDl m l e) = rDl m l e := by
 simp only [rDl,nrmR,nrmL,nrmV,msg_nrm,nwLeafs,uK,nrmRows_map lkC_nrm]
theorem rDl_nrm0 (e : Int) : nrmR Try.prog [50,26,51] (.tup [.agg (.int .i64 0 :: .int .i64 0 :: .int .i64 0 :: .int .u64 0 :: .int .i64 0 :: (zO ++ [.int .u64 0, .int .i64 0, .int .u64 0, .int .i64 0])), .agg [.nils], .int .i64 e]) = rDl mz [] e := by
 simp only [rDl,nrmR,nrmL,nrmV,msg_nrm0,nwLeafs,uK,cK,List.map_nil,mz]
noncomputable def dlvN (ls : List Lk) (f t : Int) : Msg × List Lk × Int :=
 if validK ls = false then (mz,[],1) else
   let l:=fndK f t ls
   match l.q with
   | []=>(mz,[],6)
   | m :: r=>if l.cut then (mz,[],8) else (m,putK ⟨l.fr,l.to,l.cut,r⟩ ls,0)
noncomputable def dlvS : SpecFn := mkS (fun d : Nts × Int × Int => [d.1.v, .int .i64 d.2.1, .int .i64 d.2.2]) fun d => (rDl (dlvN d.1.ls d.2.1 d.2.2).1 (dlvN d.1.ls d.2.1 d.2.2).2.1 (dlvN d.1.ls d.2.1 d.2.2).2.2,[])
theorem dlvS_eq (d : Nts) (f t : Int) : dlvS [d.v, .int .i64 f, .int .i64 t] [] = some (rDl (dlvN d.ls f t).1 (dlvN d.ls f t).2.1 (dlvN d.ls f t).2.2,[]) :=
 mkS_eq (enc:=fun d : Nts × Int × Int=>[d.1.v,AV.int .i64 d.2.1, .int .i64 d.2.2]) (res:=fun d=>(rDl (dlvN d.1.ls d.2.1 d.2.2).1 (dlvN d.1.ls d.2.1 d.2.2).2.1 (dlvN d.1.ls d.2.1 d.2.2).2.2,[])) (fun x y h=>by
   obtain ⟨a,b,c⟩:=x
   obtain ⟨a',b',c'⟩:=y
   simp only [List.cons.injEq,AV.int.injEq,true_and,and_true] at h
   obtain ⟨h1,rfl,rfl⟩:=h
   cases Nts.v_inj h1
   rfl) (d,f,t)
noncomputable def dlv_specs : NL Spec := [(36,⟨1,vkS⟩),(38,⟨1,fnkS⟩),(39,⟨1,ptlS⟩)]
theorem dlv_specs_ok : ∀ p ∈ dlv_specs,FnC Try.prog p.1 p.2.fn := by
 simp only [dlv_specs,List.mem_cons,List.not_mem_nil,or_false]
 rintro p (rfl | rfl | rfl)
 · exact rvk21_ok
 · exact fnk_ok
 · exact ptl_ok
attribute [local simp] dlv_specs
theorem dlv_ok : FnC Try.prog 19 dlvS := by
 refine FnC.walkN 19 (fn:=Try.f19) [50,26,51] Try.func19 rfl (by kernel_rfl) (fun x=>?_) (fun x=>⟨_,rDl_nrm _ _ _⟩)
 obtain ⟨⟨l,hl,he⟩,f,t⟩:=x
 have cv:=vkS_eq ⟨l,hl,he⟩
 have ce:=fnkS_eq ⟨l,hl,he⟩ f t
 simp only [Nts.v] at cv ce
 change W _ (RetNf _ _ _ (rDl (dlvN l f t).1 (dlvN l f t).2.1 (dlvN l f t).2.2) []) _ _ ⟨43,[(0, .agg [.list 4 (l.map lkC)]),(1, .int .i64 f),(2, .int .i64 t)],[]⟩
 generalize hR : dlvN l f t = R
 unfold dlvN at hR
 dsimp only at hR
 cases hv : validK l with
 | false =>
   rw [if_pos hv] at hR
   subst hR
   rw [hv] at cv
   repeat' (first | intro (hb : _ = _) | refine ZV ?_ | refine ZB tm dlv_specs_ok ?_ | refine ZH ?_ ?_ | refine ZJ (by conv=>lhs; simp [cv]) ?_ | refine ZA ?_ ?_)
   refine Ye ?_
   exact rDl_nrm0 1
 | true =>
   rw [if_neg (by simp [hv])] at hR
   rw [hv] at cv
   have oe:=fndK_ok he f t
   generalize fndK f t l = e at *
   obtain ⟨e1,e2,e3,q⟩:=e
   unfold okK at oe
   dsimp only at oe hR
   simp only [lkC] at ce
   clear hv
   cases q with
   | nil =>
     dsimp only at hR
     subst hR
     simp only [List.map_nil] at ce
     repeat' (first | intro (hb : _ = _) | refine ZV ?_ | refine ZB tm dlv_specs_ok ?_ | refine ZH ?_ ?_ | refine ZJ (by conv=>lhs; simp [cv,ce]) ?_ | refine ZA ?_ ?_)
     refine Ye ?_
     exact rDl_nrm0 6
   | cons m r =>
     dsimp only at hR
     simp only [List.length_cons] at oe
     have w3 : r.length + 1 ≤ 9223372036854775807:=by omega
     have w4 : ((r.length : Int) + 1 == 0) = false:=by simp; omega
     simp only [List.map_cons] at ce
     cases e3 with
     | true =>
       rw [if_pos rfl] at hR
       subst hR
       repeat' (first | intro (hb : _ = _) | refine ZV ?_ | refine ZB tm dlv_specs_ok ?_ | refine ZH ?_ ?_ | refine ZJ (by conv=>lhs; simp [cv,ce,w3,w4]) ?_ | refine ZA ?_ ?_)
       refine Ye ?_
       exact rDl_nrm0 8
     | false =>
       rw [if_neg (by simp)] at hR
       have cP:=ptlS_eq ⟨⟨l,hl,he⟩,⟨e1,e2,false,r⟩,by unfold okK; dsimp only; omega⟩
       simp only [Nts.v,lkC] at cP
       generalize putK ⟨e1,e2,false,r⟩ l = L at *
       subst hR
       obtain ⟨u1,u2,u3,u4,u5,mo,u6,u7,u8,u9⟩:=m
       simp only [Msg.v] at ce
       have z1 : r.length * 536 ≤ 140737488355328:=by omega
       have z2 : r.length ≤ maxLen:=by simp only [maxLen]; omega
       have z3 : r.length ≤ 9223372036854775807:=by omega
       have tr : List.take r.length (r.map Msg.v) = r.map Msg.v:=List.take_of_length_le (by simp)
       clear oe
       repeat' (first | intro (hb : _ = _) | refine ZV ?_ | refine ZB tm dlv_specs_ok ?_ | refine ZH ?_ ?_ | refine ZJ (by conv=>lhs; simp [cv,ce,w3,w4,z1,z2,z3,tr,cP]) ?_ | refine ZA ?_ ?_)
       refine Ye ?_
       exact rDl_nrm ⟨u1,u2,u3,u4,u5,mo,u6,u7,u8,u9⟩ L 0
end
section
attribute [local simp] instA slice3A slice3C
attribute [-simp] mkv
attribute [local simp] mkv_hd hdA_cons hdA_ob hdA_ob'
theorem pnode_ok : FnC Try.prog 23 (boS okN) := by
 refine FnC.walk 23 (fn:=Try.f23) Try.func23 rfl (by kernel_rfl) fun m=>?_
 change W _ (Ret _ _ (.bool (okN m)) []) _ _ ⟨9,[(0, .int .i64 m)],[]⟩
 repeat' (first | intro (hb : _ = _) | refine ZV ?_ | refine ZB tm no_specs ?_ | refine ZH ?_ ?_ | refine ZJ (by conv=>lhs; simp) ?_ | refine ZA ?_ ?_)
 all_goals (first | refine Yd ?_ | refine Ye ?_)
 all_goals (first | rfl | (simp [okN]; done) | (simp_all [okN]; done) | (simp_all [okN]; omega))
def ixmF (p : Msg → Bool) : Nat → List Msg → Int
 | _,[] => -1
 | k,x :: r=>if p x then (k : Int) else ixmF p (k + 1) r
theorem ixmF_drop {p : Msg → Bool} {l : List Msg} {k : Nat} {x : Msg} (h : l[k]? = some x) : ixmF p k (l.drop k) = if p x then (k : Int) else ixmF p (k + 1) (l.drop (k + 1)) := by
 obtain ⟨hk,rfl⟩:=List.getElem?_eq_some_iff.1 h
 rw [List.drop_eq_getElem_cons hk,ixmF]
theorem ixmF_end {p : Msg → Bool} {l : List Msg} : ixmF p l.length (l.drop l.length) = -1 := by rw [List.drop_length]; rfl
theorem ixmF_any {p : Msg → Bool} : ∀ {k : Nat} {l : List Msg},decide (0 ≤ ixmF p k l) = l.any p
 | k,[]=>by simp [ixmF]
 | k,x :: r=>by
   rw [ixmF,List.any_cons]
   cases hp : p x
   · simpa using ixmF_any (p:=p) (k:=k + 1) (l:=r)
   · simp
structure ixmV where
 F : FuncId
 p : Msg → Bool
 S : SpecFn
 ok : FnC Try.prog F S
 eq : ∀ x,S [.agg x.v] [] = some (.bool (p x),[])
structure ixmW where
 F : FuncId
 ne : (F = 66) = False
 ne2 : (66 = F) = False
 p : Msg → Bool
 E : Nat
 s : Nat
 row : List AV
 refs : refsL row = []
 ren : ∀ f,renL f row = row
 S : SpecFn
 ok : FnC Try.prog F S
 eq : ∀ x,S [.agg x.v, .ptr 0 0 0 0] [{ gen:=0,kind:=2,elem:=E,size:=s,inl:=false,rows:=[row] }] = some (.bool (p x),[{ gen:=0,kind:=2,elem:=E,size:=s,inl:=false,rows:=[row] }])
def ixmW.b (v : ixmW) : ABlk := { gen := 0,kind := 2,elem := v.E,size := v.s,inl := false,rows := [v.row] }
theorem ixmC_inj {l m : List Msg} (h : l.map Msg.v = m.map Msg.v) : l = m := map_inj' (fun a b h => (msgv1_inj h)) h
noncomputable def ixm1 (v : ixmW) : SpecFn := mkS2 (fun l : {l : List Msg // l.length ≤ 9100} => ([.list 45 (l.1.map Msg.v), .fn (.func v.F) [] [.ptr 0 0 0 0]],[v.b])) fun l => (.int .i64 (ixmF v.p 0 l.1),[v.b])
theorem ixm1_eq (v : ixmW) (l : List Msg) (h : l.length ≤ 9100) : ixm1 v [.list 45 (l.map Msg.v), .fn (.func v.F) [] [.ptr 0 0 0 0]] [v.b] = some (.int .i64 (ixmF v.p 0 l),[v.b]) :=
 mkS2_eq (enc:=fun l : {l : List Msg // l.length ≤ 9100}=>([AV.list 45 (l.1.map Msg.v), .fn (.func v.F) [] [.ptr 0 0 0 0]],[v.b])) (res:=fun l=>(AV.int .i64 (ixmF v.p 0 l.1),[v.b])) (fun x y h=>by
   simp only [Prod.mk.injEq,List.cons.injEq,AV.list.injEq,true_and,and_true] at h
   rw [ixmC_inj h]) ⟨l,h⟩
theorem ixm1_ok (v : ixmW) : FnC Try.prog 66 (ixm1 v) := by
 obtain ⟨G,ne,ne2,p,E,s,row,rf,rn,S,ok,eq⟩:=v
 have sp : ∀ q ∈ ([(G,⟨3,S⟩)] : NL Spec),FnC Try.prog q.1 q.2.fn:=by
   simp only [List.mem_cons,List.not_mem_nil,or_false]
   rintro q rfl
   exact ok
 refine FnC.walkB 66 (fn:=Try.f66) Try.func66 rfl (by kernel_rfl) (fun x b hb=>by simp at hb; rw [hb]; rfl) fun x=>?_
 obtain ⟨l,hl⟩:=x
 obtain ⟨b,hB⟩ : ∃ b : ABlk,b = { gen:=0,kind:=2,elem:=E,size:=s,inl:=false,rows:=[row] }:=⟨_,rfl⟩
 change W _ (RetB _ _ 1 (.int .i64 (ixmF p 0 l)) [{ gen:=0,kind:=2,elem:=E,size:=s,inl:=false,rows:=[row] }]) _ _ ⟨19,[(0, .list 45 (l.map Msg.v)),(1, .fn (.func G) [] [.ptr 0 0 0 0])],[(0, { gen:=0,kind:=2,elem:=E,size:=s,inl:=false,rows:=[row] })]⟩
 have cap : l.length ≤ 9223372036854775807:=by omega
 repeat' (first | intro (hb : _ = _) | refine ZV ?_ | refine ZB tm sp ?_ | refine ZH ?_ ?_ | refine ZJ (by conv=>lhs; simp [cap]) ?_ | refine ZA ?_ ?_)
 refine W.loop rfl (ι:={ q : Nat × NL ABlk // q.1 ≤ l.length ∧ ixmF p 0 l = ixmF p q.1 (l.drop q.1) ∧ lk q.2 0 = some { gen:=0,kind:=2,elem:=E,size:=s,inl:=false,rows:=[row] } })
   (fun q=>⟨19,[(0, .list 45 (l.map Msg.v)),(1, .fn (.func G) [] [.ptr 0 0 0 0]),(7, .int .i64 l.length),(8, .int .i64 (q.1.1 : Nat))],q.1.2⟩) (fun q=>l.length - q.1.1)
   ⟨(0,_),by simp,rfl,rfl⟩ (AS.le_of rfl ⟨rfl,rfl,rfl,rfl,trivial⟩ (fun _=>rfl)) ?_
 rintro ⟨⟨k,h⟩,hk,hf,h1⟩
 dsimp only at hk hf h1 ⊢
 by_cases hk2 : k = l.length
 · subst hk2
   rw [ixmF_end] at hf
   rw [hf]
   repeat' (first | intro (hb : _ = _) | refine ZV ?_ | refine ZB tm sp ?_ | refine ZH ?_ ?_ | refine ZJ (by conv=>lhs; simp) ?_ | refine ZA ?_ ?_)
   exact RetB.raw [0] rfl (by conv=>lhs; simp) (by decide) (by simp [h1]) (by simp [h1,rn]) (by simp)
 · have hlt : k < l.length:=by omega
   obtain ⟨m,hr⟩:=get_lt hlt
   have hm : (l.map Msg.v)[k]? = some (Msg.v m):=by rw [List.getElem?_map,hr]; rfl
   have q1 : (k : Int) < l.length:=by omega
   have q2 : ¬ l.length ≤ k:=by omega
   have hw : IntKind.i64.wrap ((k : Int) + 1) = ((k + 1 : Nat) : Int):=w64 (by omega) (by omega)
   rw [ixmF_drop hr] at hf
   have cf:=eq m
   clear hlt hk2
   simp only [Msg.v] at cf hm
   cases ho : p m with
   | true =>
     rw [if_pos ho] at hf
     rw [hf]
     rw [ho] at cf
     repeat' (first | intro (hb : _ = _) | refine ZV ?_ | refine ZB tm sp ?_ | refine ZH ?_ ?_ | refine ZJ (by conv=>lhs; simp [q1,q2,hm,cf,h1,rf,rn,maxLen]) ?_ | refine ZA ?_ ?_)
     exact RetB.raw [0] rfl (by conv=>lhs; simp) (by decide) (by simp) (by simp [rn]) (by simp)
   | false =>
     rw [if_neg (by simp [ho])] at hf
     rw [ho] at cf
     repeat' (first | intro (hb : _ = _) | refine ZV ?_ | refine ZB tm sp ?_ | refine ZH ?_ ?_ | refine ZJ (by conv=>lhs; simp [q1,q2,hm,cf,hw,h1,rf,rn,maxLen]) ?_ | refine ZA ?_ ?_)
     exact ⟨⟨(k + 1,_),by dsimp only; omega,hf,by simp [lk_st]⟩,by dsimp only; omega,AS.le_of rfl ⟨rfl,rfl,rfl,rfl,trivial⟩ (fun _=>rfl)⟩
noncomputable def ixmc1 (v : ixmW) : SpecFn := mkS2 (fun l : {l : List Msg // l.length ≤ 9100} => ([.list 45 (l.1.map Msg.v), .fn (.func v.F) [] [.ptr 0 0 0 0]],[v.b])) fun l => (.bool (l.1.any v.p),[v.b])
theorem ixmc1_eq (v : ixmW) (l : List Msg) (h : l.length ≤ 9100) : ixmc1 v [.list 45 (l.map Msg.v), .fn (.func v.F) [] [.ptr 0 0 0 0]] [v.b] = some (.bool (l.any v.p),[v.b]) :=
 mkS2_eq (enc:=fun l : {l : List Msg // l.length ≤ 9100}=>([AV.list 45 (l.1.map Msg.v), .fn (.func v.F) [] [.ptr 0 0 0 0]],[v.b])) (res:=fun l=>(AV.bool (l.1.any v.p),[v.b])) (fun x y h=>by
   simp only [Prod.mk.injEq,List.cons.injEq,AV.list.injEq,true_and,and_true] at h
   rw [ixmC_inj h]) ⟨l,h⟩
theorem ixmc1_ok (v : ixmW) : FnC Try.prog 34 (ixmc1 v) := by
 have sp : ∀ q ∈ ([(66,⟨3,ixm1 v⟩)] : NL Spec),FnC Try.prog q.1 q.2.fn:=by
   simp only [List.mem_cons,List.not_mem_nil,or_false]
   rintro q rfl
   exact ixm1_ok v
 refine FnC.walkB 34 (fn:=Try.f34) Try.func34 rfl (by kernel_rfl) (fun x b hb=>by simp at hb; rw [hb]; rfl) fun x=>?_
 obtain ⟨l,hl⟩:=x
 have cf:=ixm1_eq v l hl
 obtain ⟨G,ne,ne2,p,E,s,row,rf,rn,S,ok,eq⟩:=v
 simp only [ixmW.b] at cf
 change W _ (RetB _ _ 1 (.bool (l.any p)) [{ gen:=0,kind:=2,elem:=E,size:=s,inl:=false,rows:=[row] }]) _ _ ⟨9,[(0, .list 45 (l.map Msg.v)),(1, .fn (.func G) [] [.ptr 0 0 0 0])],[(0, { gen:=0,kind:=2,elem:=E,size:=s,inl:=false,rows:=[row] })]⟩
 repeat' (first | intro (hb : _ = _) | refine ZV ?_ | refine ZB tm sp ?_ | refine ZH ?_ ?_ | refine ZJ (by conv=>lhs; simp [cf,rf,rn]) ?_ | refine ZA ?_ ?_)
 exact RetB.raw [0] rfl (by conv=>lhs; simp) (by decide) (by simp) (by simp [rn]) (by simp [ixmF_any])
def lkBox (x : Lk) : ABlk := { gen := 0,kind := 2,elem := 74,size := 4,inl := false,rows := [lkC x] }
def strB (x : Lk) (m : Msg) : Bool := m.fr != x.fr || m.to != x.to
noncomputable def sxkS (x : Lk) : SpecFn := mkS2 (fun m : Msg => ([.agg m.v, .ptr 0 0 0 0],[lkBox x])) fun m => (.bool (strB x m),[lkBox x])
theorem sxkS_eq (x : Lk) (m : Msg) : sxkS x [.agg m.v, .ptr 0 0 0 0] [lkBox x] = some (.bool (strB x m),[lkBox x]) :=
 mkS2_eq (enc:=fun m : Msg=>([AV.agg m.v, .ptr 0 0 0 0],[lkBox x])) (res:=fun m=>(AV.bool (strB x m),[lkBox x])) (fun a b h=>by
   simp only [Prod.mk.injEq,List.cons.injEq,AV.agg.injEq,and_true] at h
   rw [msgv1_inj h]) m
theorem sxk_ok (x : Lk) : FnC Try.prog 33 (sxkS x) := by
 refine FnC.walkB 33 (fn:=Try.f33) Try.func33 rfl (by kernel_rfl) (fun m b hb=>by simp at hb; rw [hb]; rfl) fun m=>?_
 obtain ⟨a,b,c,q⟩:=x
 obtain ⟨b1,b2,b3,b4,b5,o,b6,b7,b8,b9⟩:=m
 change W _ (RetB _ _ 1 (.bool (b1 != a || b2 != b)) [lkBox ⟨a,b,c,q⟩]) _ _ ⟨16,[(0, .agg (.int .i64 b1 :: .int .i64 b2 :: .int .i64 b3 :: .int .u64 b4 :: .int .i64 b5 :: (o.cells ++ [.int .u64 b6, .int .i64 b7, .int .u64 b8, .int .i64 b9]))),(1, .ptr 0 0 0 0)],[(0,lkBox ⟨a,b,c,q⟩)]⟩
 repeat' (first | intro (hb : _ = _) | refine ZV ?_ | refine ZB tm no_specs ?_ | refine ZH ?_ ?_ | refine ZJ (by conv=>lhs; simp [lkBox,lkC]) ?_ | refine ZA ?_ ?_)
 all_goals (refine RetB.raw [0] rfl (by conv=>lhs; simp) (by decide) (by simp) (by simp [renL,AV.ren,lkBox,lkC]) (by simp_all))
noncomputable def sxkV (x : Lk) : ixmW := ⟨33,by simp,by simp,strB x,74,4,lkC x,by simp [lkC,refsL,AV.refs],fun f => renL_lkC f x,sxkS x,sxk_ok x,sxkS_eq x⟩
def pvK (l : List Lk) (k : Nat) (f t : Int) : Bool :=
 match k with
 | 0=>true
 | i + 1=>match l[i]? with
   | some s=>befB s f t
   | none=>true
theorem str_all (x : Lk) : (x.q.any (strB x)) = !(x.q.all fun m => m.fr == x.fr && m.to == x.to) := by
 rw [List.not_all_eq_any_not]
 congr 1
 funext m
 simp only [strB,Bool.not_and,bne]
theorem vap2_ok : FnC Try.prog 15 vkS := by
 refine FnC.walk 15 (fn:=Try.f15) Try.func15 rfl (by kernel_rfl) fun d=>?_
 obtain ⟨l,hl,he⟩:=d
 change W _ (Ret _ _ (.bool (validK l)) []) _ _ ⟨66,[(0, .agg [.list 4 (l.map lkC)])],[]⟩
 have cap : l.length ≤ 9223372036854775807:=by omega
 repeat' (first | intro (hb : _ = _) | refine ZV ?_ | refine ZB tm no_specs ?_ | refine ZH ?_ ?_ | refine ZJ (by conv=>lhs; simp [cap]) ?_ | refine ZA ?_ ?_)
 refine W.loop rfl (ι:={ q : Nat × NL ABlk // q.1 ≤ l.length ∧ (∀ j,j < q.1 → goodK l j = true) ∧ lk q.2 32 = some { gen:=1,kind:=2,elem:=26,size:=1,inl:=false,rows:=[[.list 4 (l.map lkC)]] } })
   (fun q=>⟨66,[(1, .ptr 32 1 0 0),(7, .list 4 (l.map lkC)),(8, .int .i64 l.length),(9, .int .i64 (q.1.1 : Nat))],q.1.2⟩) (fun q=>l.length - q.1.1)
   ⟨(0,_),by simp,fun j hj=>absurd hj (by simp),rfl⟩ (AS.le_of rfl ⟨rfl,rfl,rfl,rfl,trivial⟩ (fun _=>rfl)) ?_
 rintro ⟨⟨k,h⟩,hk,hg,h1⟩
 dsimp only at hk hg h1 ⊢
 by_cases hk2 : k = l.length
 · subst hk2
   rw [validK_yes hg]
   have q1 : ¬ (l.length : Int) < l.length:=by omega
   repeat' (first | intro (hb : _ = _) | refine ZV ?_ | refine ZB tm no_specs ?_ | refine ZH ?_ ?_ | refine ZJ (by conv=>lhs; simp [q1]) ?_ | refine ZA ?_ ?_)
   all_goals (first | refine Yd ?_ | refine Ye ?_)
   all_goals (first | rfl | (simp; done) | (simp_all; done) | (simp_all; omega))
 · have hlt : k < l.length:=by omega
   obtain ⟨x,hr⟩:=get_lt hlt
   have hm : (l.map lkC)[k]? = some (lkC x):=by rw [List.getElem?_map,hr]; rfl
   have q1 : (k : Int) < l.length:=by omega
   have q2 : ¬ l.length ≤ k:=by omega
   have hw : IntKind.i64.wrap ((k : Int) + 1) = ((k + 1 : Nat) : Int):=w64 (by omega) (by omega)
   have hqb : x.q.length ≤ 9000:=he _ (List.mem_of_getElem? hr)
   have cq : x.q.length ≤ 9223372036854775807:=by omega
   have n1:=boS_eq okN x.fr
   have n2:=boS_eq okN x.to
   have cs:=ixmc1_eq (sxkV x) x.q (by omega)
   have sp : ∀ p ∈ ([(23,⟨1,boS okN⟩),(35,⟨1,cmlS⟩),(34,⟨3,ixmc1 (sxkV x)⟩)] : NL Spec),FnC Try.prog p.1 p.2.fn:=by
     simp only [List.mem_cons,List.not_mem_nil,or_false]
     rintro p (rfl | rfl | rfl)
     · exact pnode_ok
     · exact cml_ok
     · exact ixmc1_ok (sxkV x)
   change ixmc1 (sxkV x) [.list 45 (x.q.map Msg.v), .fn (.func 33) [] [.ptr 0 0 0 0]] [{ gen:=0,kind:=2,elem:=74,size:=4,inl:=false,rows:=[lkC x] }] = some (.bool (x.q.any (strB x)),[{ gen:=0,kind:=2,elem:=74,size:=4,inl:=false,rows:=[lkC x] }]) at cs
   rw [str_all] at cs
   have hgk : ∀ z,z = (lkB x && (x.q.all (fun m=>m.fr == x.fr && m.to == x.to))) → z = false → goodK l k = false:=fun z hz h0=>by
     rw [h0] at hz
     unfold goodK
     rw [hr]
     dsimp only
     rw [← Bool.and_assoc, ← hz,Bool.false_and]
   obtain ⟨b3,hb3⟩ : ∃ b,(x.q.all fun m=>m.fr == x.fr && m.to == x.to) = b:=⟨_,rfl⟩
   obtain ⟨e0,he0⟩ : ∃ b,((x.q.length : Int) == 0) = b:=⟨_,rfl⟩
   have he0' : x.q.isEmpty = e0:=by
     rw [← he0]
     cases x.q with
     | nil=>rfl
     | cons a r=>simp; omega
   have hlb : lkB x = (okN x.fr && (okN x.to && (decide (x.q.length ≤ 4096) && (x.cut || !e0)))):=by rw [← he0']; rfl
   rw [hb3] at cs hgk
   rw [hlb] at hgk
   have hgo : (lkB x && b3) = true → goodK l k = pvK l k x.fr x.to:=fun hz=>by
     unfold goodK
     rw [hr]
     dsimp only
     rw [hb3, ← Bool.and_assoc,hz,Bool.true_and]
     rfl
   rw [hlb] at hgo
   clear hlb he0' hb3
   obtain ⟨a,b,c,q⟩:=x
   simp only [lkC] at hm cs
   dsimp only at *
   generalize okN a = x1 at *
   generalize okN b = x2 at *
   have bad : ∀ (hx : (x1 && (x2 && (decide (q.length ≤ 4096) && (c || !e0))) && b3) = false),validK l = false:=fun hx=>validK_no hlt (hgk _ rfl hx)
   by_cases h3 : q.length ≤ 4096
   · have c3 : ¬ (4096 : Int) < q.length:=by omega
     rw [decide_eq_true h3] at bad hgo
     cases x1
     · rw [bad (by simp)]
       repeat' (first | intro (hb : _ = _) | refine ZV ?_ | refine ZB tm sp ?_ | refine ZH ?_ ?_ | refine ZJ (by conv=>lhs; simp [q1,q2,hm,n1,n2,cq,c3,cs,he0]) ?_ | refine ZA ?_ ?_)
       all_goals (first | refine Yd ?_ | refine Ye ?_)
       all_goals (first | rfl | (simp; done) | (simp_all; done) | (simp_all; omega))
     cases x2
     · rw [bad (by simp)]
       repeat' (first | intro (hb : _ = _) | refine ZV ?_ | refine ZB tm sp ?_ | refine ZH ?_ ?_ | refine ZJ (by conv=>lhs; simp [q1,q2,hm,n1,n2,cq,c3,cs,he0]) ?_ | refine ZA ?_ ?_)
       all_goals (first | refine Yd ?_ | refine Ye ?_)
       all_goals (first | rfl | (simp; done) | (simp_all; done) | (simp_all; omega))
     cases b3
     · rw [bad (by simp)]
       repeat' (first | intro (hb : _ = _) | refine ZV ?_ | refine ZB tm sp ?_ | refine ZH ?_ ?_ | refine ZJ (by conv=>lhs; simp [q1,q2,hm,n1,n2,cq,c3,cs,he0]) ?_ | refine ZA ?_ ?_)
       all_goals (first | refine Yd ?_ | refine Ye ?_)
       all_goals (first | rfl | (simp; done) | (simp_all; done) | (simp_all; omega))
     have hgn : goodK l k = true → ∀ j,j < k + 1 → goodK l j = true:=fun hz j hj=>by
       by_cases e : j = k
       · subst e; exact hz
       · exact hg j (by omega)
     have good : (c = true ∨ e0 = false) ∨ (c = false ∧ e0 = true):=by cases c <;> cases e0 <;> simp
     rcases good with good | ⟨rfl,rfl⟩
     · have hgo:=hgo (by cases c <;> cases e0 <;> simp at good ⊢)
       clear bad hgk
       by_cases hz : k = 0
       · have hgk : goodK l k = true:=by rw [hgo]; subst hz; rfl
         have hgn:=hgn hgk
         have q5 : ¬ (0 : Int) < (k : Int):=by omega
         have q6 : ¬ 0 < k:=by omega
         clear hz hgo
         cases c
         · cases e0
           · repeat' (first | intro (hb : _ = _) | refine ZV ?_ | refine ZB tm sp ?_ | refine ZH ?_ ?_ | refine ZJ (by conv=>lhs; simp [q1,q2,q5,q6,hm,n1,n2,cq,c3,cs,he0,hw,h1]) ?_ | refine ZA ?_ ?_)
             exact ⟨⟨(k + 1,_),hlt,hgn,by simp [lk_st,h1]⟩,by dsimp only; omega,AS.le_of rfl ⟨rfl,rfl,rfl,rfl,trivial⟩ (fun _=>rfl)⟩
           · simp at good
         · repeat' (first | intro (hb : _ = _) | refine ZV ?_ | refine ZB tm sp ?_ | refine ZH ?_ ?_ | refine ZJ (by conv=>lhs; simp [q1,q2,q5,q6,hm,n1,n2,cq,c3,cs,hw,h1]) ?_ | refine ZA ?_ ?_)
           exact ⟨⟨(k + 1,_),hlt,hgn,by simp [lk_st,h1]⟩,by dsimp only; omega,AS.le_of rfl ⟨rfl,rfl,rfl,rfl,trivial⟩ (fun _=>rfl)⟩
       · obtain ⟨j,hj⟩ : ∃ j,k = j + 1:=⟨k - 1,by omega⟩
         obtain ⟨s,hs⟩:=get_lt (l:=l) (i:=j) (by omega)
         have hms : (l.map lkC)[j]? = some (lkC s):=by rw [List.getElem?_map,hs]; rfl
         have cc:=cmlS_eq s (he s (List.mem_of_getElem? hs)) a b
         have cl:=cmL_lt s a b
         generalize cmL s a b = cv at cc cl
         have q3 : ¬ l.length ≤ j:=by omega
         have q4 : (0 : Int) < (k : Int):=by omega
         have q4' : 0 < k:=by omega
         have hd : IntKind.i64.wrap ((k : Int) - 1) = (j : Int):=by rw [w64 (by omega) (by omega)]; omega
         have q1' : (j : Int) < l.length:=by omega
         have hgo2 : goodK l k = befB s a b:=by rw [hgo]; subst hj; simp only [pvK,hs]
         clear hgo
         obtain ⟨s1,s2,s3,s4⟩:=s
         simp only [lkC] at hms cc
         by_cases hc : cv < 0
         · have hgn:=hgn (by rw [hgo2]; exact cl.1 hc)
           have hc2 : ¬ (0 : Int) ≤ cv:=by omega
           cases c
           · cases e0
             · repeat' (first | intro (hb : _ = _) | refine ZV ?_ | refine ZB tm sp ?_ | refine ZH ?_ ?_ | refine ZJ (by conv=>lhs; simp [q1,q1',q2,q3,q4,q4',hm,hms,n1,n2,cq,c3,cs,he0,hw,hd,h1,cc,hc2]) ?_ | refine ZA ?_ ?_)
               exact ⟨⟨(k + 1,_),hlt,hgn,by simp [lk_st,h1]⟩,by dsimp only; omega,AS.le_of rfl ⟨rfl,rfl,rfl,rfl,trivial⟩ (fun _=>rfl)⟩
             · simp at good
           · repeat' (first | intro (hb : _ = _) | refine ZV ?_ | refine ZB tm sp ?_ | refine ZH ?_ ?_ | refine ZJ (by conv=>lhs; simp [q1,q1',q2,q3,q4,q4',hm,hms,n1,n2,cq,c3,cs,hw,hd,h1,cc,hc2]) ?_ | refine ZA ?_ ?_)
             exact ⟨⟨(k + 1,_),hlt,hgn,by simp [lk_st,h1]⟩,by dsimp only; omega,AS.le_of rfl ⟨rfl,rfl,rfl,rfl,trivial⟩ (fun _=>rfl)⟩
         · have hc2 : (0 : Int) ≤ cv:=by omega
           rw [validK_no hlt (by rw [hgo2]; exact Bool.eq_false_iff.2 fun c=>hc (cl.2 c))]
           cases c
           · cases e0
             · repeat' (first | intro (hb : _ = _) | refine ZV ?_ | refine ZB tm sp ?_ | refine ZH ?_ ?_ | refine ZJ (by conv=>lhs; simp [q1,q1',q2,q3,q4,q4',hm,hms,n1,n2,cq,c3,cs,he0,hw,hd,h1,cc,hc2]) ?_ | refine ZA ?_ ?_)
               all_goals (first | refine Yd ?_ | refine Ye ?_)
               all_goals (first | rfl | (simp; done) | (simp_all; done) | (simp_all; omega))
             · simp at good
           · repeat' (first | intro (hb : _ = _) | refine ZV ?_ | refine ZB tm sp ?_ | refine ZH ?_ ?_ | refine ZJ (by conv=>lhs; simp [q1,q1',q2,q3,q4,q4',hm,hms,n1,n2,cq,c3,cs,hw,hd,h1,cc,hc2]) ?_ | refine ZA ?_ ?_)
             all_goals (first | refine Yd ?_ | refine Ye ?_)
             all_goals (first | rfl | (simp; done) | (simp_all; done) | (simp_all; omega))
     · rw [bad (by simp)]
       repeat' (first | intro (hb : _ = _) | refine ZV ?_ | refine ZB tm sp ?_ | refine ZH ?_ ?_ | refine ZJ (by conv=>lhs; simp [q1,q2,hm,n1,n2,cq,c3,cs,he0]) ?_ | refine ZA ?_ ?_)
       all_goals (first | refine Yd ?_ | refine Ye ?_)
       all_goals (first | rfl | (simp; done) | (simp_all; done) | (simp_all; omega))
   · have c3 : (4096 : Int) < q.length:=by omega
     rw [bad (by simp [h3])]
     repeat' (first | intro (hb : _ = _) | refine ZV ?_ | refine ZB tm sp ?_ | refine ZH ?_ ?_ | refine ZJ (by conv=>lhs; simp [q1,q2,hm,n1,n2,cq,c3]) ?_ | refine ZA ?_ ?_)
     all_goals (first | refine Yd ?_ | refine Ye ?_)
     all_goals (first | rfl | (simp; done) | (simp_all; done) | (simp_all; omega))
noncomputable def lk0 : Lk := ⟨0,0,false,[]⟩
noncomputable def fnpL (l : List Lk) (f t : Int) : Lk := if hasN l (bsN l f t) f t = true then fndK f t l else lk0
noncomputable def fnpS : SpecFn := mkS (fun d : NtS × Int × Int => [.agg [.list 4 (d.1.1.ls.map lkC)], .int .i64 d.2.1, .int .i64 d.2.2]) fun d => (.agg (lkC (fnpL d.1.1.ls d.2.1 d.2.2)),[])
theorem fnpS_eq (d : NtS) (f t : Int) : fnpS [.agg [.list 4 (d.1.ls.map lkC)], .int .i64 f, .int .i64 t] [] = some (.agg (lkC (fnpL d.1.ls f t)),[]) :=
 mkS_eq (enc:=fun d : NtS × Int × Int=>[AV.agg [.list 4 (d.1.1.ls.map lkC)], .int .i64 d.2.1, .int .i64 d.2.2]) (res:=fun d=>(.agg (lkC (fnpL d.1.1.ls d.2.1 d.2.2)),[])) (fun x y h=>by
   obtain ⟨a,b,c⟩:=x
   obtain ⟨a',b',c'⟩:=y
   simp only [List.cons.injEq,AV.agg.injEq,AV.list.injEq,AV.int.injEq,true_and,and_true] at h
   obtain ⟨h1,rfl,rfl⟩:=h
   rw [NtS.inj (lks_inj h1)]) (d,f,t)
noncomputable def fnp_specs : NL Spec := [(52,⟨0,bsnS⟩)]
theorem fnp_specs_ok : ∀ p ∈ fnp_specs,FnC Try.prog p.1 p.2.fn := by
 simp only [fnp_specs,List.mem_cons,List.not_mem_nil,or_false]
 rintro p rfl
 exact bsn_ok
attribute [local simp] fnp_specs
theorem fnp_ok : FnC Try.prog 24 fnpS := by
 refine FnC.walkN 24 (fn:=Try.f24) [74] Try.func24 rfl (by kernel_rfl) (fun d=>?_) (fun d=>⟨_,lkC_nrmR _⟩)
 obtain ⟨⟨⟨l,lh,lq⟩,hs,l8⟩,f,t⟩:=d
 dsimp only at hs l8
 have cb:=bsnS_eq ⟨l,lh,lq⟩ f t
 dsimp only at cb
 change W _ (RetNf _ _ _ (.agg (lkC (fnpL l f t))) []) _ _ ⟨25,[(0, .agg [.list 4 (l.map lkC)]),(1, .int .i64 f),(2, .int .i64 t)],[]⟩
 cases hh : hasN l (bsN l f t) f t with
 | true =>
   obtain ⟨x,hx⟩:=fnd_at hh
   obtain ⟨e1, -⟩:=chg_found hs hx hh
   rw [fnpL,if_pos hh,e1]
   rw [hh] at cb
   generalize bsN l f t = p at *
   have hp : p < l.length:=(List.getElem?_eq_some_iff.1 hx).1
   have hm : (l.map lkC)[p]? = some (lkC x):=by rw [List.getElem?_map,hx]; rfl
   have q1 : (p : Int) < l.length:=by omega
   have q2 : ¬ l.length ≤ p:=by omega
   obtain ⟨a,b,c,q⟩:=x
   simp only [lkC] at hm
   clear hp hx
   repeat' (first | intro (hb : _ = _) | refine ZV ?_ | refine ZB tm fnp_specs_ok ?_ | refine ZH ?_ ?_ | refine ZJ (by conv=>lhs; simp [cb,q1,q2,hm]) ?_ | refine ZA ?_ ?_)
   all_goals (refine Ye ?_)
   all_goals exact lkC_nrmR ⟨a,b,c,q⟩
 | false =>
   rw [fnpL,if_neg (by simp [hh])]
   rw [hh] at cb
   generalize bsN l f t = p at *
   repeat' (first | intro (hb : _ = _) | refine ZV ?_ | refine ZB tm fnp_specs_ok ?_ | refine ZH ?_ ?_ | refine ZJ (by conv=>lhs; simp [cb]) ?_ | refine ZA ?_ ?_)
   all_goals (refine Ye ?_)
   all_goals (show nrmR Try.prog [74] (.agg [.int .i64 0, .int .i64 0, .bool false, .nils]) = _; simp only [nrmR,nrmV]; rw [lkC_nrm0]; rfl)
end
section
attribute [local simp] instA slice3A slice3C
attribute [-simp] mkv
attribute [local simp] mkv_hd hdA_cons hdA_ob hdA_ob'
theorem othK_mem {x y : Lk} {l : List Lk} (h : y ∈ othK x l) : y ∈ l := (List.mem_filter.1 h).1
theorem putP_mem {x y : Lk} : ∀ {l : List Lk},y ∈ putP x l → y = x ∨ y ∈ l
 | [],h=>by
   rw [putP,List.mem_singleton] at h
   exact .inl h
 | e :: r,h=>by
   rw [putP] at h
   split at h
   · rcases List.mem_cons.1 h with rfl | h
     · exact .inr (by simp)
     · rcases putP_mem h with h | h
       · exact .inl h
       · exact .inr (by simp [h])
   · rcases List.mem_cons.1 h with rfl | h
     · exact .inl rfl
     · exact .inr (othK_mem h)
theorem putK_mem {x y : Lk} {l : List Lk} (h : y ∈ putK x l) : y = x ∨ y ∈ l := by
 unfold putK restK at h
 split at h
 · exact .inr (othK_mem h)
 · exact putP_mem h
theorem putK_len (x : Lk) (l : List Lk) : (putK x l).length ≤ l.length + 1 := by
 unfold putK restK
 split
 · exact Nat.le_succ_of_le (List.length_filter_le _ _)
 · exact putP_len x l
structure Nt8 where
 ls : List Lk
 bd : ls.length ≤ 8900
 bq : ∀ l ∈ ls,okK l
def Nt8.n (d : Nt8) : Nts := ⟨d.ls,by have := d.bd; omega,d.bq⟩
noncomputable def cutN (ls : List Lk) (a b : Int) (c : Bool) : List Lk × Int :=
 if validK ls = false then ([],1) else if (!okN a || (!okN b || a == b)) = true then ([],2) else
   let x:=fndK a b ls
   let y:=fndK b a ls
   (putK ⟨y.fr,y.to,c,y.q⟩ (putK ⟨x.fr,x.to,c,x.q⟩ ls),0)
noncomputable def cutS : SpecFn := mkS (fun d : Nt8 × Int × Int × Bool => [d.1.n.v, .int .i64 d.2.1, .int .i64 d.2.2.1, .bool d.2.2.2]) fun d => (rN (cutN d.1.ls d.2.1 d.2.2.1 d.2.2.2).1 (cutN d.1.ls d.2.1 d.2.2.1 d.2.2.2).2,[])
theorem cutS_eq (d : Nt8) (a b : Int) (c : Bool) : cutS [d.n.v, .int .i64 a, .int .i64 b, .bool c] [] = some (rN (cutN d.ls a b c).1 (cutN d.ls a b c).2,[]) :=
 mkS_eq (enc:=fun d : Nt8 × Int × Int × Bool=>[d.1.n.v,AV.int .i64 d.2.1, .int .i64 d.2.2.1, .bool d.2.2.2]) (res:=fun d=>(rN (cutN d.1.ls d.2.1 d.2.2.1 d.2.2.2).1 (cutN d.1.ls d.2.1 d.2.2.1 d.2.2.2).2,[])) (fun x y h=>by
   obtain ⟨⟨l,b1,b2⟩,b,c,d⟩:=x
   obtain ⟨⟨l',b1',b2'⟩,b',c',d'⟩:=y
   simp only [List.cons.injEq,AV.int.injEq,AV.bool.injEq,true_and,and_true] at h
   obtain ⟨h1,rfl,rfl,rfl⟩:=h
   have h2:=Nts.v_inj h1
   simp only [Nt8.n,Nts.mk.injEq] at h2
   subst h2
   rfl) (d,a,b,c)
attribute [local simp] sdk_specs
theorem cut_ok : FnC Try.prog 18 cutS := by
 refine FnC.walkN 18 (fn:=Try.f18) [26,51] Try.func18 rfl (by kernel_rfl) (fun x=>?_) (fun x=>⟨_,rN_nrm _ _⟩)
 obtain ⟨⟨l,hl,he⟩,a,b,c⟩:=x
 have cv:=vkS_eq ⟨l,by omega,he⟩
 have c1:=boS_eq okN a
 have c2:=boS_eq okN b
 have cx:=fnkS_eq ⟨l,by omega,he⟩ a b
 have cy:=fnkS_eq ⟨l,by omega,he⟩ b a
 simp only [Nts.v] at cv cx cy
 change W _ (RetNf _ _ _ (rN (cutN l a b c).1 (cutN l a b c).2) []) _ _ ⟨47,[(0, .agg [.list 4 (l.map lkC)]),(1, .int .i64 a),(2, .int .i64 b),(3, .bool c)],[]⟩
 generalize hR : cutN l a b c = R
 unfold cutN at hR
 dsimp only at hR
 cases hv : validK l with
 | false =>
   rw [if_pos hv] at hR
   subst hR
   rw [hv] at cv
   repeat' (first | intro (hb : _ = _) | refine ZV ?_ | refine ZB tm sdk_specs_ok ?_ | refine ZH ?_ ?_ | refine ZJ (by conv=>lhs; simp [cv]) ?_ | refine ZA ?_ ?_)
   refine Ye ?_
   exact rN_nrm0 1
 | true =>
   rw [if_neg (by simp [hv])] at hR
   rw [hv] at cv
   cases h1 : okN a with
   | false =>
     rw [if_pos (by simp [h1])] at hR
     subst hR
     rw [h1] at c1
     repeat' (first | intro (hb : _ = _) | refine ZV ?_ | refine ZB tm sdk_specs_ok ?_ | refine ZH ?_ ?_ | refine ZJ (by conv=>lhs; simp [cv,c1]) ?_ | refine ZA ?_ ?_)
     refine Ye ?_
     exact rN_nrm0 2
   | true =>
     rw [h1] at c1
     cases h2 : okN b with
     | false =>
       rw [if_pos (by simp [h2])] at hR
       subst hR
       rw [h2] at c2
       repeat' (first | intro (hb : _ = _) | refine ZV ?_ | refine ZB tm sdk_specs_ok ?_ | refine ZH ?_ ?_ | refine ZJ (by conv=>lhs; simp [cv,c1,c2]) ?_ | refine ZA ?_ ?_)
       refine Ye ?_
       exact rN_nrm0 2
     | true =>
       rw [h2] at c2
       cases h3 : (a == b) with
       | true =>
         rw [if_pos (by simp [h3])] at hR
         subst hR
         repeat' (first | intro (hb : _ = _) | refine ZV ?_ | refine ZB tm sdk_specs_ok ?_ | refine ZH ?_ ?_ | refine ZJ (by conv=>lhs; simp [cv,c1,c2,h3]) ?_ | refine ZA ?_ ?_)
         refine Ye ?_
         exact rN_nrm0 2
       | false =>
         rw [if_neg (by simp [h1,h2,h3])] at hR
         have ox:=fndK_ok he a b
         have oy:=fndK_ok he b a
         generalize fndK a b l = x at *
         generalize fndK b a l = y at *
         obtain ⟨x1,x2,x3,xq⟩:=x
         obtain ⟨y1,y2,y3,yq⟩:=y
         unfold okK at ox oy
         dsimp only at ox oy hR
         have cP:=ptlS_eq ⟨⟨l,by omega,he⟩,⟨x1,x2,c,xq⟩,ox⟩
         have hl2 : (putK ⟨x1,x2,c,xq⟩ l).length ≤ 9000:=by
           have:=putK_len ⟨x1,x2,c,xq⟩ l
           omega
         have he2 : ∀ y ∈ putK ⟨x1,x2,c,xq⟩ l,okK y:=fun y hy=>by
           rcases putK_mem hy with rfl | hy
           · exact ox
           · exact he y hy
         generalize putK ⟨x1,x2,c,xq⟩ l = L1 at *
         have cQ:=ptlS_eq ⟨⟨L1,hl2,he2⟩,⟨y1,y2,c,yq⟩,oy⟩
         generalize putK ⟨y1,y2,c,yq⟩ L1 = L2 at *
         simp only [Nts.v,lkC] at cP cQ cx cy
         subst hR
         clear hv h1 h2 ox oy hl2 he2
         repeat' (first | intro (hb : _ = _) | refine ZV ?_ | refine ZB tm sdk_specs_ok ?_ | refine ZH ?_ ?_ | refine ZJ (by conv=>lhs; simp [cv,c1,c2,h3,cx,cy,cP,cQ]) ?_ | refine ZA ?_ ?_)
         refine Ye ?_
         exact rN_nrm L2 0
structure Nt4 where
 ls : List Lk
 bd : ls.length ≤ 4000
 bq : ∀ l ∈ ls,okK l
def Nt4.n (d : Nt4) : Nts := ⟨d.ls,by have := d.bd; omega,d.bq⟩
noncomputable def rdy_specs : NL Spec := [(36,⟨1,vkS⟩)]
attribute [local simp] rdy_specs
end
section
attribute [local simp] instA slice3A slice3C
attribute [-simp] mkv
attribute [local simp] mkv_hd hdA_cons hdA_ob hdA_ob'
theorem Nt8.inj {a b : Nt8} (h : a.ls = b.ls) : a = b := by
 obtain ⟨l,h1,h2⟩:=a
 obtain ⟨l',h1',h2'⟩:=b
 cases h
 rfl
theorem fnp_q {l : List Lk} (hs : SrtK l) (f t : Int) : (fnpL l f t).q = (fndK f t l).q ∧ (fnpL l f t).cut = (fndK f t l).cut := by
 unfold fnpL
 split
 · exact ⟨rfl,rfl⟩
 · rename_i h
   rw [(chg_none hs (by simpa using h)).1]
   exact ⟨rfl,rfl⟩
theorem fnd_ft {l : List Lk} (f t : Int) : (fndK f t l).fr = f ∧ (fndK f t l).to = t := by
 unfold fndK
 cases h : l.find? (lkIs f t) with
 | none=>exact ⟨rfl,rfl⟩
 | some x =>
   have:=List.find?_some h
   exact lkIsK_iff.1 this
noncomputable def sdpS : SpecFn := mkS (fun d : Nt8 × Msg => [.agg [.list 4 (d.1.ls.map lkC)], .agg d.2.v]) fun d => (rN (sndN d.1.ls d.2).1 (sndN d.1.ls d.2).2,[])
theorem sdpS_eq (d : Nt8) (m : Msg) : sdpS [.agg [.list 4 (d.ls.map lkC)], .agg m.v] [] = some (rN (sndN d.ls m).1 (sndN d.ls m).2,[]) :=
 mkS_eq (enc:=fun d : Nt8 × Msg=>[AV.agg [.list 4 (d.1.ls.map lkC)], .agg d.2.v]) (res:=fun d=>(rN (sndN d.1.ls d.2).1 (sndN d.1.ls d.2).2,[])) (fun x y h=>by
   obtain ⟨a,b⟩:=x
   obtain ⟨a',b'⟩:=y
   simp only [List.cons.injEq,AV.agg.injEq,AV.list.injEq,true_and,and_true] at h
   obtain ⟨h1,h2⟩:=h
   rw [Nt8.inj (lks_inj h1),msgv1_inj h2]) (d,m)
noncomputable def sdp_specs : NL Spec := [(15,⟨1,vkS⟩),(23,⟨1,boS okN⟩),(24,⟨1,fnpS⟩),(25,⟨1,cobS⟩),(26,⟨3,chsS⟩)]
theorem sdp_specs_ok : ∀ p ∈ sdp_specs,FnC Try.prog p.1 p.2.fn := by
 simp only [sdp_specs,List.mem_cons,List.not_mem_nil,or_false]
 rintro p (rfl | rfl | rfl | rfl | rfl)
 · exact vap2_ok
 · exact pnode_ok
 · exact fnp_ok
 · exact cob_ok
 · exact chs_ok
attribute [local simp] sdp_specs
theorem sdp_ok : FnC Try.prog 8 sdpS := by
 refine FnC.walkN 8 (fn:=Try.f8) [26,51] Try.func8 rfl (by kernel_rfl) (fun x=>?_) (fun x=>⟨_,rN_nrm _ _⟩)
 obtain ⟨⟨l,l8,he⟩,m⟩:=x
 have hl : l.length ≤ 9000:=by omega
 have cv:=vkS_eq ⟨l,hl,he⟩
 have c1:=boS_eq okN m.fr
 have c2:=boS_eq okN m.to
 simp only [Nts.v] at cv
 change W _ (RetNf _ _ _ (rN (sndN l m).1 (sndN l m).2) []) _ _ ⟨45,[(0, .agg [.list 4 (l.map lkC)]),(1, .agg m.v)],[]⟩
 generalize hR : sndN l m = R
 unfold sndN at hR
 dsimp only at hR
 have rfm:=refsL_msg m
 have rnm:=fun f=>renL_msg f m
 cases hv : validK l with
 | false =>
   rw [if_pos hv] at hR
   subst hR
   rw [hv] at cv
   obtain ⟨u1,u2,u3,u4,u5,mo,u6,u7,u8,u9⟩:=m
   repeat' (first | intro (hb : _ = _) | refine ZV ?_ | refine ZB tm sdp_specs_ok ?_ | refine ZH ?_ ?_ | refine ZJ (by conv=>lhs; simp [cv]) ?_ | refine ZA ?_ ?_)
   refine Ye ?_
   exact rN_nrm0 1
 | true =>
   have hs:=validK_srt hv
   rw [if_neg (by simp [hv])] at hR
   rw [hv] at cv
   have ce:=fnpS_eq ⟨⟨l,hl,he⟩,hs,by show l.length ≤ 8999; omega⟩ m.fr m.to
   have cc:=chsS_eq ⟨⟨l,hl,he⟩,hs,by show l.length ≤ 8999; omega⟩ m.fr m.to m
   dsimp only at ce cc
   obtain ⟨eq1, -⟩:=fnp_q hs m.fr m.to
   have hsl : sndL l m.fr m.to m = putK ⟨(fndK m.fr m.to l).fr,(fndK m.fr m.to l).to,(fndK m.fr m.to l).cut,(fndK m.fr m.to l).q ++ [m]⟩ l:=rfl
   rw [hsl] at cc
   have oe:=fndK_ok he m.fr m.to
   unfold okK at oe
   generalize fndK m.fr m.to l = e at *
   generalize fnpL l m.fr m.to = e' at *
   generalize putK ⟨e.fr,e.to,e.cut,e.q ++ [m]⟩ l = L at *
   have y4 : e'.q.length ≤ 9223372036854775807:=by rw [eq1]; omega
   rw [← eq1] at hR
   have cm:=cobS_eq m.obj
   simp only [mB] at cc
   clear hsl eq1 oe
   obtain ⟨a1,a2,a3,q⟩:=e'
   obtain ⟨u1,u2,u3,u4,u5,mo,u6,u7,u8,u9⟩:=m
   simp only [lkC] at ce
   simp only [Msg.v] at cc rfm rnm
   dsimp only at *
   cases hn1 : okN u1 with
   | false =>
     rw [if_pos (by simp [hn1])] at hR
     subst hR
     rw [hn1] at c1
     repeat' (first | intro (hb : _ = _) | refine ZV ?_ | refine ZB tm sdp_specs_ok ?_ | refine ZH ?_ ?_ | refine ZJ (by conv=>lhs; simp [cv,c1]) ?_ | refine ZA ?_ ?_)
     refine Ye ?_
     exact rN_nrm0 2
   | true =>
     rw [hn1] at c1
     cases hn2 : okN u2 with
     | false =>
       rw [if_pos (by simp [hn2])] at hR
       subst hR
       rw [hn2] at c2
       repeat' (first | intro (hb : _ = _) | refine ZV ?_ | refine ZB tm sdp_specs_ok ?_ | refine ZH ?_ ?_ | refine ZJ (by conv=>lhs; simp [cv,c1,c2]) ?_ | refine ZA ?_ ?_)
       refine Ye ?_
       exact rN_nrm0 2
     | true =>
       rw [hn2] at c2
       rw [if_neg (by simp [hn1,hn2])] at hR
       by_cases hb : 4096 ≤ q.length
       · rw [if_pos hb] at hR
         subst hR
         have b1 : (4096 : Int) ≤ q.length:=by omega
         repeat' (first | intro (hb : _ = _) | refine ZV ?_ | refine ZB tm sdp_specs_ok ?_ | refine ZH ?_ ?_ | refine ZJ (by conv=>lhs; simp [cv,c1,c2,ce,y4,b1]) ?_ | refine ZA ?_ ?_)
         refine Ye ?_
         exact rN_nrm0 9
       · rw [if_neg hb] at hR
         subst hR
         have b1 : ¬ (4096 : Int) ≤ q.length:=by omega
         clear hb hn1 hn2 hv hs
         repeat' (first | intro (hb : _ = _) | refine ZV ?_ | refine ZB tm sdp_specs_ok ?_ | refine ZH ?_ ?_ | refine ZJ (by conv=>lhs; simp [cv,c1,c2,ce,b1,y4,cm,cc,rfm,rnm]) ?_ | refine ZA ?_ ?_)
         refine Ye ?_
         exact rN_nrm L 0
noncomputable def dlpS : SpecFn := mkS (fun d : Nt8 × Int × Int => [.agg [.list 4 (d.1.ls.map lkC)], .int .i64 d.2.1, .int .i64 d.2.2]) fun d => (rDl (dlvN d.1.ls d.2.1 d.2.2).1 (dlvN d.1.ls d.2.1 d.2.2).2.1 (dlvN d.1.ls d.2.1 d.2.2).2.2,[])
theorem dlpS_eq (d : Nt8) (f t : Int) : dlpS [.agg [.list 4 (d.ls.map lkC)], .int .i64 f, .int .i64 t] [] = some (rDl (dlvN d.ls f t).1 (dlvN d.ls f t).2.1 (dlvN d.ls f t).2.2,[]) :=
 mkS_eq (enc:=fun d : Nt8 × Int × Int=>[AV.agg [.list 4 (d.1.ls.map lkC)], .int .i64 d.2.1, .int .i64 d.2.2]) (res:=fun d=>(rDl (dlvN d.1.ls d.2.1 d.2.2).1 (dlvN d.1.ls d.2.1 d.2.2).2.1 (dlvN d.1.ls d.2.1 d.2.2).2.2,[])) (fun x y h=>by
   obtain ⟨a,b,c⟩:=x
   obtain ⟨a',b',c'⟩:=y
   simp only [List.cons.injEq,AV.agg.injEq,AV.list.injEq,AV.int.injEq,true_and,and_true] at h
   obtain ⟨h1,rfl,rfl⟩:=h
   rw [Nt8.inj (lks_inj h1)]) (d,f,t)
noncomputable def dlp_specs : NL Spec := [(15,⟨1,vkS⟩),(24,⟨1,fnpS⟩),(26,⟨3,chdS⟩)]
theorem dlp_specs_ok : ∀ p ∈ dlp_specs,FnC Try.prog p.1 p.2.fn := by
 simp only [dlp_specs,List.mem_cons,List.not_mem_nil,or_false]
 rintro p (rfl | rfl | rfl)
 · exact vap2_ok
 · exact fnp_ok
 · exact chd_ok
attribute [local simp] dlp_specs
theorem dlp_ok : FnC Try.prog 9 dlpS := by
 refine FnC.walkN 9 (fn:=Try.f9) [50,26,51] Try.func9 rfl (by kernel_rfl) (fun x=>?_) (fun x=>⟨_,rDl_nrm _ _ _⟩)
 obtain ⟨⟨l,l8,he⟩,f,t⟩:=x
 have hl : l.length ≤ 9000:=by omega
 have cv:=vkS_eq ⟨l,hl,he⟩
 simp only [Nts.v] at cv
 change W _ (RetNf _ _ _ (rDl (dlvN l f t).1 (dlvN l f t).2.1 (dlvN l f t).2.2) []) _ _ ⟨40,[(0, .agg [.list 4 (l.map lkC)]),(1, .int .i64 f),(2, .int .i64 t)],[]⟩
 generalize hR : dlvN l f t = R
 unfold dlvN at hR
 dsimp only at hR
 cases hv : validK l with
 | false =>
   rw [if_pos hv] at hR
   subst hR
   rw [hv] at cv
   repeat' (first | intro (hb : _ = _) | refine ZV ?_ | refine ZB tm dlp_specs_ok ?_ | refine ZH ?_ ?_ | refine ZJ (by conv=>lhs; simp [cv,zO]) ?_ | refine ZA ?_ ?_)
   refine Ye ?_
   exact rDl_nrm0 1
 | true =>
   have hs:=validK_srt hv
   rw [if_neg (by simp [hv])] at hR
   rw [hv] at cv
   have ce:=fnpS_eq ⟨⟨l,hl,he⟩,hs,by show l.length ≤ 8999; omega⟩ f t
   have cc:=fun (m : Msg) (r : List Msg) (h : (fndK f t l).q = m :: r)=>chdS_eq ⟨⟨l,hl,he⟩,hs,by show l.length ≤ 8999; omega⟩ f t m r h
   dsimp only at ce cc
   obtain ⟨eq1,eq2⟩:=fnp_q hs f t
   have hsl : ∀ r,dlvL l f t r = putK ⟨(fndK f t l).fr,(fndK f t l).to,(fndK f t l).cut,r⟩ l:=fun _=>rfl
   simp only [hsl] at cc
   have oe:=fndK_ok he f t
   unfold okK at oe
   generalize fndK f t l = e at *
   generalize fnpL l f t = e' at *
   have y4 : e'.q.length ≤ 9223372036854775807:=by rw [eq1]; omega
   obtain ⟨a1,a2,a3,q⟩:=e'
   simp only [lkC] at ce
   dsimp only at eq1 eq2 y4
   rw [← eq1] at cc
   cases hq : q with
   | nil =>
     rw [← eq1,hq] at hR
     dsimp only at hR
     subst hR
     rw [hq] at ce
     repeat' (first | intro (hb : _ = _) | refine ZV ?_ | refine ZB tm dlp_specs_ok ?_ | refine ZH ?_ ?_ | refine ZJ (by conv=>lhs; simp [cv,ce,zO]) ?_ | refine ZA ?_ ?_)
     refine Ye ?_
     exact rDl_nrm0 6
   | cons m r =>
     rw [← eq1,hq] at hR
     dsimp only at hR
     rw [← eq2] at hR
     have cc:=cc m r hq
     rw [← eq2] at cc
     generalize putK ⟨e.fr,e.to,a3,r⟩ l = L at *
     have h0 : ((q.length : Int) == 0) = false:=by rw [hq]; simp; omega
     clear hq eq1 eq2 oe hsl
     cases a3 with
     | true =>
       rw [if_pos rfl] at hR
       subst hR
       repeat' (first | intro (hb : _ = _) | refine ZV ?_ | refine ZB tm dlp_specs_ok ?_ | refine ZH ?_ ?_ | refine ZJ (by conv=>lhs; simp [cv,ce,zO,h0,y4]) ?_ | refine ZA ?_ ?_)
       refine Ye ?_
       exact rDl_nrm0 8
     | false =>
       rw [if_neg (by decide)] at hR
       subst hR
       have rfz:=refsL_mz
       have rnz:=fun f=>renL_mz f
       have rfm:=refsL_msg m
       have rnm:=fun f=>renL_msg f m
       obtain ⟨u1,u2,u3,u4,u5,mo,u6,u7,u8,u9⟩:=m
       simp only [mzB,mzC,mB,Msg.v] at cc rfz rnz rfm rnm
       simp only [zO,List.cons_append,List.nil_append] at cc rfz rnz
       repeat' (first | intro (hb : _ = _) | refine ZV ?_ | refine ZB tm dlp_specs_ok ?_ | refine ZH ?_ ?_ | refine ZJ (by conv=>lhs; simp [cv,ce,h0,y4,cc,rfz,rnz,rfm,rnm]) ?_ | refine ZA ?_ ?_)
       refine Ye ?_
       exact rDl_nrm ⟨u1,u2,u3,u4,u5,mo,u6,u7,u8,u9⟩ L 0
end
section
attribute [local simp] instA slice3A slice3C
attribute [-simp] mkv
attribute [local simp] mkv_hd hdA_cons hdA_ob hdA_ob'
theorem find_oth {y : Lk} {f t : Int} (h : lkIs f t y = false) (l : List Lk) : (othK y l).find? (lkIs f t) = l.find? (lkIs f t) := by
 unfold othK
 rw [List.find?_filter]
 congr 1
 funext a
 cases ha : lkIs f t a with
 | false=>simp
 | true =>
   obtain ⟨e1,e2⟩:=lkIsK_iff.1 ha
   have : ¬ (a.fr = y.fr ∧ a.to = y.to):=fun ⟨g1,g2⟩=>by
     rw [show lkIs f t y = true from lkIsK_iff.2 ⟨by rw [← g1,e1],by rw [← g2,e2]⟩] at h
     cases h
   by_cases g1 : a.fr = y.fr
   · by_cases g2 : a.to = y.to
     · exact absurd ⟨g1,g2⟩ this
     · simp [g2]
   · simp [g1]
theorem find_putP {y : Lk} {f t : Int} (h : lkIs f t y = false) : ∀ l : List Lk,(putP y l).find? (lkIs f t) = l.find? (lkIs f t)
 | []=>by simp [putP,h]
 | e :: r=>by
   rw [putP]
   split
   · simp only [List.find?_cons,find_putP h r]
   · rw [List.find?_cons,h]
     exact find_oth h (e :: r)
theorem fndK_put {y : Lk} {f t : Int} (h : lkIs f t y = false) (l : List Lk) : fndK f t (putK y l) = fndK f t l := by
 unfold fndK putK restK
 split
 · rw [find_oth h]
 · rw [find_putP h]
noncomputable def cup_specs : NL Spec := [(15,⟨1,vkS⟩),(23,⟨1,boS okN⟩),(26,⟨3,chcS⟩)]
theorem cup_specs_ok : ∀ p ∈ cup_specs,FnC Try.prog p.1 p.2.fn := by
 simp only [cup_specs,List.mem_cons,List.not_mem_nil,or_false]
 rintro p (rfl | rfl | rfl)
 · exact vap2_ok
 · exact pnode_ok
 · exact chc_ok
attribute [local simp] cup_specs
theorem pct_ok : FnC Try.prog 12 cutS := by
 refine FnC.walkN 12 (fn:=Try.f12) [26,51] Try.func12 rfl (by kernel_rfl) (fun x=>?_) (fun x=>⟨_,rN_nrm _ _⟩)
 obtain ⟨⟨l,l8,he⟩,a,b,c⟩:=x
 have hl : l.length ≤ 9000:=by omega
 have cv:=vkS_eq ⟨l,hl,he⟩
 have c1:=boS_eq okN a
 have c2:=boS_eq okN b
 simp only [Nts.v] at cv
 change W _ (RetNf _ _ _ (rN (cutN l a b c).1 (cutN l a b c).2) []) _ _ ⟨41,[(0, .agg [.list 4 (l.map lkC)]),(1, .int .i64 a),(2, .int .i64 b),(3, .bool c)],[]⟩
 generalize hR : cutN l a b c = R
 unfold cutN at hR
 dsimp only at hR
 cases hv : validK l with
 | false =>
   rw [if_pos hv] at hR
   subst hR
   rw [hv] at cv
   repeat' (first | intro (hb : _ = _) | refine ZV ?_ | refine ZB tm cup_specs_ok ?_ | refine ZH ?_ ?_ | refine ZJ (by conv=>lhs; simp [cv]) ?_ | refine ZA ?_ ?_)
   refine Ye ?_
   exact rN_nrm0 1
 | true =>
   have hs:=validK_srt hv
   rw [if_neg (by simp [hv])] at hR
   rw [hv] at cv
   cases h1 : okN a with
   | false =>
     rw [if_pos (by simp [h1])] at hR
     subst hR
     rw [h1] at c1
     repeat' (first | intro (hb : _ = _) | refine ZV ?_ | refine ZB tm cup_specs_ok ?_ | refine ZH ?_ ?_ | refine ZJ (by conv=>lhs; simp [cv,c1]) ?_ | refine ZA ?_ ?_)
     refine Ye ?_
     exact rN_nrm0 2
   | true =>
     rw [h1] at c1
     cases h2 : okN b with
     | false =>
       rw [if_pos (by simp [h2])] at hR
       subst hR
       rw [h2] at c2
       repeat' (first | intro (hb : _ = _) | refine ZV ?_ | refine ZB tm cup_specs_ok ?_ | refine ZH ?_ ?_ | refine ZJ (by conv=>lhs; simp [cv,c1,c2]) ?_ | refine ZA ?_ ?_)
       refine Ye ?_
       exact rN_nrm0 2
     | true =>
       rw [h2] at c2
       cases h3 : (a == b) with
       | true =>
         rw [if_pos (by simp [h3])] at hR
         subst hR
         repeat' (first | intro (hb : _ = _) | refine ZV ?_ | refine ZB tm cup_specs_ok ?_ | refine ZH ?_ ?_ | refine ZJ (by conv=>lhs; simp [cv,c1,c2,h3]) ?_ | refine ZA ?_ ?_)
         refine Ye ?_
         exact rN_nrm0 2
       | false =>
         rw [if_neg (by simp [h1,h2,h3])] at hR
         have ne : ¬ a = b:=by simpa using h3
         obtain ⟨xf,xt⟩:=fnd_ft (l:=l) a b
         have cP:=chcS_eq ⟨⟨l,hl,he⟩,hs,by show l.length ≤ 8999; omega⟩ a b c
         have ex : cutL l a b c = putK ⟨(fndK a b l).fr,(fndK a b l).to,c,(fndK a b l).q⟩ l:=rfl
         have nb : lkIs b a ⟨(fndK a b l).fr,(fndK a b l).to,c,(fndK a b l).q⟩ = false:=by
           rw [xf,xt,Bool.eq_false_iff]
           exact fun hc=>ne (lkIsK_iff.1 hc).1
         have ef:=fndK_put nb l
         have ox:=fndK_ok he a b
         dsimp only at cP
         rw [ex] at cP
         have hl2:=putK_len ⟨(fndK a b l).fr,(fndK a b l).to,c,(fndK a b l).q⟩ l
         have he2 : ∀ y ∈ putK ⟨(fndK a b l).fr,(fndK a b l).to,c,(fndK a b l).q⟩ l,okK y:=fun y hy=>by
           rcases putK_mem hy with rfl | hy
           · exact ox
           · exact he y hy
         have hs2:=srt_part hs ⟨(fndK a b l).fr,(fndK a b l).to,c,(fndK a b l).q⟩
         clear xf xt nb ox ex
         rw [← ef] at hR
         generalize putK ⟨(fndK a b l).fr,(fndK a b l).to,c,(fndK a b l).q⟩ l = L1 at *
         have cQ:=chcS_eq ⟨⟨L1,by omega,he2⟩,hs2,by show L1.length ≤ 8999; omega⟩ b a c
         have ey : cutL L1 b a c = putK ⟨(fndK b a L1).fr,(fndK b a L1).to,c,(fndK b a L1).q⟩ L1:=rfl
         dsimp only at cQ
         rw [ey] at cQ
         generalize putK ⟨(fndK b a L1).fr,(fndK b a L1).to,c,(fndK b a L1).q⟩ L1 = L2 at *
         subst hR
         simp only [cB] at cP cQ
         clear hv h1 h2 hl2 he2 ef ey hs hs2 ne
         repeat' (first | intro (hb : _ = _) | refine ZV ?_ | refine ZB tm cup_specs_ok ?_ | refine ZH ?_ ?_ | refine ZJ (by conv=>lhs; simp [cv,c1,c2,h3,cP,cQ]) ?_ | refine ZA ?_ ?_)
         refine Ye ?_
         exact rN_nrm L2 0
end
section
attribute [local simp] instA slice3A slice3C
attribute [-simp] mkv
attribute [local simp] mkv_hd hdA_cons hdA_ob hdA_ob'
theorem fnd_self : ∀ {l : List Lk},SrtK l → ∀ e ∈ l,fndK e.fr e.to l = e
 | [],_,e,h=>by simp at h
 | x :: r,hs,e,h=>by
   have hs:=List.pairwise_cons.1 hs
   rcases List.mem_cons.1 h with rfl | h
   · have : lkIs e.fr e.to e = true:=lkIsK_iff.2 ⟨rfl,rfl⟩
     simp only [fndK,List.find?_cons,this,Option.getD_some]
   · have : lkIs e.fr e.to x = false:=bef_is (hs.1 e h)
     have:=fnd_self hs.2 e h
     simp only [fndK] at this
     simp only [fndK,List.find?_cons, *]
noncomputable def fgp_specs : NL Spec := [(15,⟨1,vkS⟩),(31,⟨3,cpnS⟩),(26,⟨3,chfS⟩)]
attribute [local simp] fgp_specs
end
section
attribute [local simp] instA slice3A slice3C
attribute [-simp] mkv
attribute [local simp] mkv_hd hdA_cons hdA_ob hdA_ob'
noncomputable def smeS : SpecFn := mkS (fun m : Msg => [.agg m.v, .agg m.v]) fun _ => (.bool true,[])
theorem smeS_eq (m : Msg) : smeS [.agg m.v, .agg m.v] [] = some (.bool true,[]) :=
 mkS_eq (enc:=fun m : Msg=>[AV.agg m.v, .agg m.v]) (fun x y _=>rfl) m
noncomputable def sme_specs : NL Spec := [(29,⟨1,sobS⟩)]
theorem sme_specs_ok : ∀ p ∈ sme_specs,FnC Try.prog p.1 p.2.fn := by
 simp only [sme_specs,List.mem_cons,List.not_mem_nil,or_false]
 rintro p rfl
 exact sob_ok
attribute [local simp] sme_specs
theorem sme_ok : FnC Try.prog 10 smeS := by
 refine FnC.walk 10 (fn:=Try.f10) Try.func10 rfl (by kernel_rfl) fun m=>?_
 have co:=sobS_eq m.obj
 obtain ⟨b1,b2,b3,b4,b5,o,b6,b7,b8,b9⟩:=m
 change W _ (Ret _ _ (.bool true) []) _ _ ⟨77,[(0, .agg (Msg.v ⟨b1,b2,b3,b4,b5,o,b6,b7,b8,b9⟩)),(1, .agg (Msg.v ⟨b1,b2,b3,b4,b5,o,b6,b7,b8,b9⟩))],[]⟩
 simp only [Msg.v] at co ⊢
 repeat' (first | intro (hb : _ = _) | refine ZV ?_ | refine ZB tm sme_specs_ok ?_ | refine ZH ?_ ?_ | refine ZJ (by conv=>lhs; simp [co]) ?_ | refine ZA ?_ ?_)
 all_goals (first | refine Yd ?_ | refine Ye ?_)
 all_goals (first | rfl | (simp; done) | (simp_all; done) | (simp_all; omega))
noncomputable def snwS : SpecFn := mkS (fun d : Nts => [d.v,d.v]) fun _ => (.bool true,[])
theorem snwS_eq (d : Nts) : snwS [d.v,d.v] [] = some (.bool true,[]) :=
 mkS_eq (enc:=fun d : Nts=>[d.v,d.v]) (fun x y _=>rfl) d
noncomputable def snw_specs : NL Spec := [(10,⟨1,smeS⟩)]
theorem snw_specs_ok : ∀ p ∈ snw_specs,FnC Try.prog p.1 p.2.fn := by
 simp only [snw_specs,List.mem_cons,List.not_mem_nil,or_false]
 rintro p rfl
 exact sme_ok
attribute [local simp] snw_specs
theorem snw_ok : FnC Try.prog 11 snwS := by
 refine FnC.walk 11 (fn:=Try.f11) Try.func11 rfl (by kernel_rfl) fun d=>?_
 obtain ⟨l,hl,he⟩:=d
 change W _ (Ret _ _ (.bool true) []) _ _ ⟨80,[(0, .agg [.list 4 (l.map lkC)]),(1, .agg [.list 4 (l.map lkC)])],[]⟩
 have cap : l.length ≤ 9223372036854775807:=by omega
 repeat' (first | intro (hb : _ = _) | refine ZV ?_ | refine ZB tm snw_specs_ok ?_ | refine ZH ?_ ?_ | refine ZJ (by conv=>lhs; simp [cap,bne_self']) ?_ | refine ZA ?_ ?_)
 refine W.loop rfl (ι:={ q : Nat × NL ABlk // q.1 ≤ l.length ∧ lk q.2 48 = some { gen:=1,kind:=2,elem:=26,size:=1,inl:=false,rows:=[[.list 4 (l.map lkC)]] } ∧ lk q.2 64 = some { gen:=1,kind:=2,elem:=26,size:=1,inl:=false,rows:=[[.list 4 (l.map lkC)]] } })
   (fun q=>⟨80,[(2, .ptr 48 1 0 0),(3, .ptr 64 1 0 0),(18, .int .i64 l.length),(19, .int .i64 (q.1.1 : Nat))],q.1.2⟩) (fun q=>l.length - q.1.1)
   ⟨(0,_),by simp,by simp [lk,lk_st],by simp [lk,lk_st]⟩ (AS.le_of rfl ⟨rfl,rfl,rfl,rfl,trivial⟩ (fun _=>rfl)) ?_
 rintro ⟨⟨k,H⟩,hk,g1,g2⟩
 dsimp only at hk g1 g2 ⊢
 by_cases hk2 : k = l.length
 · subst hk2
   have q1 : ¬ (l.length : Int) < l.length:=by omega
   repeat' (first | intro (hb : _ = _) | refine ZV ?_ | refine ZB tm snw_specs_ok ?_ | refine ZH ?_ ?_ | refine ZJ (by conv=>lhs; simp [q1]) ?_ | refine ZA ?_ ?_)
   all_goals (first | refine Yd ?_ | refine Ye ?_)
   all_goals (first | rfl | (simp; done) | (simp_all; done) | (simp_all; omega))
 · have hlt : k < l.length:=by omega
   obtain ⟨e,hr⟩:=get_lt hlt
   have hm : (l.map lkC)[k]? = some (lkC e):=by rw [List.getElem?_map,hr]; rfl
   have q1 : (k : Int) < l.length:=by omega
   have q2 : ¬ l.length ≤ k:=by omega
   have hw : IntKind.i64.wrap ((k : Int) + 1) = ((k + 1 : Nat) : Int):=w64 (by omega) (by omega)
   have hqb : e.q.length ≤ 9000:=he _ (List.mem_of_getElem? hr)
   obtain ⟨e1,e2,e3,q⟩:=e
   dsimp only at hqb
   have cq : q.length ≤ 9223372036854775807:=by omega
   simp only [lkC] at hm
   obtain ⟨n6,h6⟩ : ∃ n,((lk H 112).getD {}).gen = n:=⟨_,rfl⟩
   obtain ⟨n7,h7⟩ : ∃ n,((lk H 128).getD {}).gen = n:=⟨_,rfl⟩
   repeat' (first | intro (hb : _ = _) | refine ZV ?_ | refine ZB tm snw_specs_ok ?_ | refine ZH ?_ ?_ | refine ZJ (by conv=>lhs; simp [q1,q2,hm,g1,g2,cq,bne_self',h6,h7]) ?_ | refine ZA ?_ ?_)
   refine W.loop rfl (ι:={ p : Nat × NL ABlk // p.1 ≤ q.length ∧ lk p.2 48 = some { gen:=1,kind:=2,elem:=26,size:=1,inl:=false,rows:=[[.list 4 (l.map lkC)]] } ∧ lk p.2 64 = some { gen:=1,kind:=2,elem:=26,size:=1,inl:=false,rows:=[[.list 4 (l.map lkC)]] } ∧ lk p.2 112 = some { gen:=n6 + 1,kind:=2,elem:=74,size:=4,inl:=false,rows:=[lkC ⟨e1,e2,e3,q⟩] } ∧ lk p.2 128 = some { gen:=n7 + 1,kind:=2,elem:=74,size:=4,inl:=false,rows:=[lkC ⟨e1,e2,e3,q⟩] } })
     (fun p=>⟨80,[(2, .ptr 48 1 0 0),(3, .ptr 64 1 0 0),(6, .ptr 112 (n6 + 1) 0 0),(7, .ptr 128 (n7 + 1) 0 0),(18, .int .i64 l.length),(19, .int .i64 (k : Nat)),(62, .int .i64 q.length),(63, .int .i64 (p.1.1 : Nat))],p.1.2⟩) (fun p=>q.length - p.1.1)
     ⟨(0,_),by simp,by simp [lk_st,g1],by simp [lk_st,g2],by simp [lk_st,lkC,h6],by simp [lk_st,lkC,h7]⟩ (AS.le_of rfl ⟨rfl,rfl,rfl,rfl,rfl,rfl,rfl,rfl,trivial⟩ (fun _=>rfl)) ?_
   clear g1 g2
   rintro ⟨⟨j,H2⟩,hj,g1,g2,g3,g4⟩
   dsimp only at hj g1 g2 g3 g4 ⊢
   simp only [lkC] at g3 g4
   by_cases hj2 : j = q.length
   · subst hj2
     have r1 : ¬ (q.length : Int) < q.length:=by omega
     repeat' (first | intro (hb : _ = _) | refine ZV ?_ | refine ZB tm snw_specs_ok ?_ | refine ZH ?_ ?_ | refine ZJ (by conv=>lhs; simp [r1,hw]) ?_ | refine ZA ?_ ?_)
     exact ⟨⟨(k + 1,_),hlt,by simp [lk_st,g1],by simp [lk_st,g2]⟩,by dsimp only; omega,AS.le_of rfl ⟨rfl,rfl,rfl,rfl,trivial⟩ (fun _=>rfl)⟩
   · have jlt : j < q.length:=by omega
     obtain ⟨m,hmm⟩:=get_lt jlt
     have hm2 : (q.map Msg.v)[j]? = some m.v:=by rw [List.getElem?_map,hmm]; rfl
     have r1 : (j : Int) < q.length:=by omega
     have r2 : ¬ q.length ≤ j:=by omega
     have hw2 : IntKind.i64.wrap ((j : Int) + 1) = ((j + 1 : Nat) : Int):=w64 (by omega) (by omega)
     have cm:=smeS_eq m
     obtain ⟨b1,b2,b3,b4,b5,o,b6,b7,b8,b9⟩:=m
     simp only [Msg.v] at hm2 cm
     repeat' (first | intro (hb : _ = _) | refine ZV ?_ | refine ZB tm snw_specs_ok ?_ | refine ZH ?_ ?_ | refine ZJ (by conv=>lhs; simp [r1,r2,hm2,cm,g3,g4,hw2]) ?_ | refine ZA ?_ ?_)
     exact ⟨⟨(j + 1,_),jlt,by simp [lk_st,g1],by simp [lk_st,g2],by simp [lk_st,g3,lkC],by simp [lk_st,g4,lkC]⟩,by dsimp only; omega,AS.le_of rfl ⟨rfl,rfl,rfl,rfl,rfl,rfl,rfl,rfl,trivial⟩ (fun _=>rfl)⟩
end
section
attribute [local simp] instA slice3A slice3C
attribute [-simp] mkv
attribute [local simp] mkv_hd hdA_cons hdA_ob hdA_ob'
theorem msg_nrmz (f t k i m a b c e : Int) : nrmL Try.prog (leafs Try.prog 50) (.int .i64 f :: .int .i64 t :: .int .i64 k :: .int .u64 i :: .int .i64 m :: (zO ++ [.int .u64 a, .int .i64 b, .int .u64 c, .int .i64 e])) = (⟨f,t,k,i,m,zOb,a,b,c,e⟩ : Msg).v := by
 rw [msgLeafs]
 simp only [Msg.v,nrmL]
 rw [nrmL_append _ _ _ _ (by rw [obLeafs]; rfl),zN_eq]
 simp [nrmL,nrmV,zOb]
noncomputable def sdpN : SpecFn := nS Try.prog [26,50] sdpS
theorem sdpN_ok : FnC Try.prog 8 sdpN := sdp_ok.nrm _
theorem nw_nrm (l : List Lk) : nrmV Try.prog 26 (.agg [.list 4 (l.map lkC)]) = .agg [.list 4 (l.map lkC)] := by
 simp only [nrmV,nwLeafs,nrmL,uK,nrmRows_map lkC_nrm]
theorem nw_nrm0 : nrmV Try.prog 26 (.agg [.nils]) = .agg [.list 4 (([] : List Lk).map lkC)] := by
 simp only [nrmV,nwLeafs,nrmL,uK,cK,List.map_nil]
theorem sdpN_eq0 (d : Nt8) (f t k i m a b c e : Int) : sdpN [.agg [.list 4 (d.ls.map lkC)], .agg (.int .i64 f :: .int .i64 t :: .int .i64 k :: .int .u64 i :: .int .i64 m :: (zO ++ [.int .u64 a, .int .i64 b, .int .u64 c, .int .i64 e]))] [] = some (rN (sndN d.ls ⟨f,t,k,i,m,zOb,a,b,c,e⟩).1 (sndN d.ls ⟨f,t,k,i,m,zOb,a,b,c,e⟩).2,[]) := by
 rw [sdpN,nS_eq]
 simp only [nrmL]
 rw [nw_nrm,show nrmV Try.prog 50 (.agg (.int .i64 f :: .int .i64 t :: .int .i64 k :: .int .u64 i :: .int .i64 m :: (zO ++ [.int .u64 a, .int .i64 b, .int .u64 c, .int .i64 e]))) = .agg (⟨f,t,k,i,m,zOb,a,b,c,e⟩ : Msg).v by rw [nrmV,msg_nrmz]]
 exact sdpS_eq d _
theorem sdpN_eqn (f t k i m a b c e : Int) : sdpN [.agg [.nils], .agg (.int .i64 f :: .int .i64 t :: .int .i64 k :: .int .u64 i :: .int .i64 m :: (zO ++ [.int .u64 a, .int .i64 b, .int .u64 c, .int .i64 e]))] [] = some (rN (sndN [] ⟨f,t,k,i,m,zOb,a,b,c,e⟩).1 (sndN [] ⟨f,t,k,i,m,zOb,a,b,c,e⟩).2,[]) := by
 rw [sdpN,nS_eq]
 simp only [nrmL]
 rw [nw_nrm0,show nrmV Try.prog 50 (.agg (.int .i64 f :: .int .i64 t :: .int .i64 k :: .int .u64 i :: .int .i64 m :: (zO ++ [.int .u64 a, .int .i64 b, .int .u64 c, .int .i64 e]))) = .agg (⟨f,t,k,i,m,zOb,a,b,c,e⟩ : Msg).v by rw [nrmV,msg_nrmz]]
 exact sdpS_eq ⟨[],by simp,by simp⟩ _
noncomputable def m7 : Msg := ⟨1,2,0,7,0,zOb,0,0,0,0⟩
noncomputable def k7 (c : Bool) : Lk := ⟨1,2,c,[m7]⟩
noncomputable def k0 : Lk := ⟨2,1,true,[]⟩
theorem s1_eq : sndN [] m7 = ([k7 false],0) := by
 simp [sndN,validK,fndK,putK,restK,putP,okN,m7,k7]
theorem v1 : validK [k7 false] = true := by
 simp [validK,goodK,lkB,okN,m7,k7,List.range_succ]
theorem v2 : validK [k7 true,k0] = true := by
 simp [validK,goodK,lkB,okN,m7,k7,k0,befB,List.range_succ]
theorem v3 : validK [] = true := by simp [validK]
theorem s2_eq : cutN [k7 false] 1 2 true = ([k7 true,k0],0) := by
 rw [cutN,v1]
 simp [fndK,putK,restK,putP,othK,befB,lkIs,okN,m7,k7,k0]
theorem s3_eq : dlvN [k7 true,k0] 1 2 = (mz,[],8) := by
 rw [dlvN,v2]
 simp [fndK,lkIs,k7]
theorem s4_eq : cutN [k7 true,k0] 2 1 false = ([k7 false],0) := by
 rw [cutN,v2]
 simp [fndK,putK,restK,putP,othK,befB,lkIs,okN,m7,k7,k0]
theorem s5_eq : dlvN [k7 false] 1 2 = (m7,[],0) := by
 rw [dlvN,v1]
 simp [fndK,putK,restK,putP,othK,befB,lkIs,k7]
noncomputable def sanS : SpecFn := mkS (fun _ : Unit => []) fun _ => (.bool true,[])
theorem sanS_eq : sanS [] [] = some (.bool true,[]) := mkS_eq (enc := fun _ : Unit => ([] : List AV)) (fun _ _ _ => rfl) ()
noncomputable def san_specs : NL Spec := [(8,⟨1,sdpN⟩),(12,⟨1,cutS⟩),(9,⟨1,dlpS⟩),(15,⟨1,vkS⟩)]
theorem san_specs_ok : ∀ p ∈ san_specs,FnC Try.prog p.1 p.2.fn := by
 simp only [san_specs,List.mem_cons,List.not_mem_nil,or_false]
 rintro p (rfl | rfl | rfl | rfl)
 · exact sdpN_ok
 · exact pct_ok
 · exact dlp_ok
 · exact vap2_ok
attribute [local simp] san_specs
theorem san_ok : FnC Try.prog 6 sanS := by
 refine FnC.walk 6 (fn:=Try.f6) Try.func6 rfl (by kernel_rfl) fun d=>?_
 change W _ (Ret _ _ (.bool true) []) _ _ ⟨71,[],[]⟩
 have c1:=sdpN_eqn 1 2 0 7 0 0 0 0 0
 have c2:=cutS_eq ⟨[k7 false],by simp,by simp [okK,k7]⟩ 1 2 true
 have c3:=dlpS_eq ⟨[k7 true,k0],by simp,by simp [okK,k7,k0]⟩ 1 2
 have c4:=cutS_eq ⟨[k7 true,k0],by simp,by simp [okK,k7,k0]⟩ 2 1 false
 have c5:=dlpS_eq ⟨[k7 false],by simp,by simp [okK,k7]⟩ 1 2
 have c6:=vkS_eq ⟨[],by simp,by simp⟩
 rw [show (⟨1,2,0,7,0,zOb,0,0,0,0⟩ : Msg) = m7 from rfl,s1_eq] at c1
 simp only [Nt8.n,Nts.v] at c2 c3 c4 c5 c6
 rw [s2_eq] at c2
 rw [s3_eq] at c3
 rw [s4_eq] at c4
 rw [s5_eq] at c5
 rw [v3] at c6
 generalize [k7 false] = L1 at *
 generalize [k7 true,k0] = L2 at *
 simp only [zO,List.cons_append,List.nil_append] at c1
 simp only [rN,rDl,mz,m7,Msg.v,List.map_nil] at c1 c2 c3 c4 c5 c6
 repeat' (first | intro (hb : _ = _) | refine ZV ?_ | refine ZB tm san_specs_ok ?_ | refine ZH ?_ ?_ | refine ZJ (by conv=>lhs; simp [c1,c2,c3,c4,c5,c6]) ?_ | refine ZA ?_ ?_)
 all_goals (first | refine Yd ?_ | refine Ye ?_)
 all_goals (first | rfl | (simp; done) | (simp_all; done) | (simp_all; omega))
end
end Go.Abs.Nn
