/- Slices that lie in a block and are written no more are told as data. Conditions: none. -/
import Derived.Test.YtphclapfniepoaaGreatAb8
import Derived.Scope
import Derived.Test.YtphclapfniepoaaGreatAb6
import Derived.Sort.Grow
namespace Go.Abs
open Go
set_option linter.unusedVariables false
section
variable {P : Program}
theorem RepL_of_cells {E : Env} {us : List Value} : ∀ {xs : List AV},us.length = xs.length → (∀ (j : Nat) (x : AV) (u : Value),xs[j]? = some x → us[j]? = some u → Rep E x u) → ∀ vs : Array Value,vs.toList = us → RepL E xs vs.toList := by
 induction us with
 | nil =>
   intro xs hl _ vs hv
   cases xs with
   | nil=>rw [hv]; simp only [RepL]
   | cons x r=>simp at hl
 | cons u us ih =>
   intro xs hl h vs hv
   cases xs with
   | nil=>simp at hl
   | cons x r =>
     rw [hv]
     simp only [RepL]
     refine ⟨u,us,rfl,h 0 x u rfl rfl, ?_⟩
     have:=ih (xs:=r) (by simpa using hl) (fun j x u h1 h2=>h (j + 1) x u (by simpa using h1) (by simpa using h2)) us.toArray (by simp)
     simpa using this
theorem rowG_env {n : Nat} {ts : NL AV} {H H' : NL ABlk} (id r : Nat) {blk : ABlk} {row row' : List AV} (hb : lk H id = some blk) (hk : blk.kind = 2) (hi : blk.inl = false) (hrow : blk.rows[r]? = some row)
   (hf : ∀ a E,SR ⟨n,ts,H⟩ a E → ∀ vs : Array Value,Rep E (.agg row) (.agg vs) → ∃ E1,E1.w = E.w ∧ Step E E1 ∧ SR ⟨n,ts,H'⟩ a E1 ∧ Rep E1 (.agg row') (.agg vs)) (hb' : lk H' id = some blk) :
   ∀ a E,SR ⟨n,ts,H⟩ a E → ∃ E1,E1.w = E.w ∧ Step E E1 ∧ SR ⟨n,ts,st H' id { blk with rows:=blk.rows.set r row' }⟩ a E1:=fun a E hs=>by
 have hbE : E.H id = some blk:=by rw [hs.heap]; exact hb
 obtain ⟨C,hC,hcs,hsz,hlen,hrl,hcell⟩:=hs.hr.cells hbE (.inr hk)
 have hr : r < blk.rows.length:=(List.getElem?_eq_some_iff.1 hrow).1
 have hcp : 0 < E.cs id:=by
   have : 0 < blk.rows.length * blk.size:=Nat.mul_pos (by omega) hsz
   omega
 have hrl0:=hrl r row hrow
 have hex : ∀ j, ∃ u : Value,j < row.length → C[r * blk.size + j]? = some u ∧ u.oneCell' = true ∧ ∀ x,row[j]? = some x → Rep E x u:=fun j=>by
   by_cases hj : j < row.length
   · obtain ⟨u,h1,h2,h3⟩:=hcell r row j _ hrow (List.getElem?_eq_getElem hj)
     refine ⟨u,fun _=>⟨h1,h2,fun x hx=>?_⟩⟩
     rw [List.getElem?_eq_getElem hj] at hx
     cases hx
     exact h3.rep
   · exact ⟨undef,fun h=>absurd h hj⟩
 obtain ⟨f,hf'⟩:=Classical.axiomOfChoice hex
 have hrep : Rep E (.agg row) (.agg ((List.range row.length).map f).toArray):=by
   simp only [Rep]
   refine ⟨_,rfl,RepL_of_cells (us:=(List.range row.length).map f) (by simp) (fun j x u h1 h2=>?_) _ rfl⟩
   have hj:=(List.getElem?_eq_some_iff.1 h1).1
   simp only [List.getElem?_map,List.getElem?_range hj,Option.map_some,Option.some.injEq] at h2
   subst h2
   exact (hf' j hj).2.2 x h1
 obtain ⟨E1,e1,e4,e3,e5⟩:=hf a E hs _ hrep
 simp only [Rep] at e5
 obtain ⟨vs,hvs,e5⟩:=e5
 have evs : vs.toList = (List.range row.length).map f:=by
   cases hvs
   simp
 have hl' : row'.length = row.length:=by
   have:=e5.length
   rw [evs] at this
   simpa using this.symm
 have hb1 : E1.H id = some blk:=by rw [e3.heap]; exact hb'
 have hp1 : E1.φ id = E.φ id ∧ E1.cs id = E.cs id:=by
   obtain ⟨b1,q1,q2,q3⟩:=e4.ref id blk hbE
   rw [hb1] at q1
   cases q1
   obtain ⟨_,_,_,k4,k5⟩:=q3 rfl (by omega)
   exact ⟨k4,k5⟩
 have hset : ∀ (k : Nat) (row2 : List AV),(blk.rows.set r row')[k]? = some row2 → (k = r ∧ row2 = row') ∨ (k ≠ r ∧ blk.rows[k]? = some row2):=fun k row2 h=>by
   by_cases e : k = r
   · subst e
     rw [List.getElem?_set_self (by omega)] at h
     exact .inl ⟨rfl,by cases h; rfl⟩
   · rw [List.getElem?_set_ne (fun q=>e q.symm)] at h
     exact .inr ⟨e,h⟩
 obtain ⟨C1,hC1,hcs1,hsz1,hlen1,hrl1,hcell1⟩:=e3.hr.cells hb1 (.inr hk)
 have hC1' : E1.w.heap[E1.φ id]? = some (.cells C1 blk.elem (0,0)):=hC1 (by omega)
 have eC : C1 = C:=by
   have h1:=hC hcp
   rw [hp1.1,e1,h1] at hC1'
   cases hC1'
   rfl
 subst eC
 obtain ⟨q1,q2⟩:=e3.hr.write (blk':={ blk with rows:=blk.rows.set r row' }) (C:=C1) (w':=E1.w) hb1 hk (by omega) ⟨rfl,rfl,rfl,rfl⟩ (fun _ _=>rfl) hC1' hcs1 hk (Nat.le_refl _) rfl rfl
   (by
     show (blk.rows.set r row').length * blk.size ≤ C1.size
     rw [List.length_set]; exact hlen1)
   (fun k row2 h=>by
     rcases hset k row2 h with ⟨_,rfl⟩ | ⟨_,h⟩
     · rw [hl']; exact hrl0
     · exact hrl1 k row2 h)
   (fun k row2 j y h hy=>by
     rcases hset k row2 h with ⟨rfl,rfl⟩ | ⟨_,h⟩
     · have hj : j < row.length:=by have:=(List.getElem?_eq_some_iff.1 hy).1; omega
       obtain ⟨g1,g2,g3⟩:=hf' j hj
       refine ⟨f j,g1,g2, ?_⟩
       unfold CellR
       rw [hi]
       obtain ⟨v,hv,hx⟩:=e5.get hy
       rw [evs] at hv
       simp only [List.getElem?_map,List.getElem?_range hj,Option.map_some,Option.some.injEq] at hv
       subst hv
       exact hx
     · exact hcell1 k row2 j y h hy)
 refine ⟨⟨E1.w,upd E1.H id (some { blk with rows:=blk.rows.set r row' }),E1.φ,E1.cs,E1.F⟩,e1,e4.trans q2, ?_,q1,hs.defers,hs.size,fun t' x hx=>?_⟩
 · show upd E1.H id _ = lk (st H' id _)
   rw [lk_st_upd, ← e3.heap]
 · obtain ⟨v,hv,hx⟩:=e3.tmps t' x hx
   exact ⟨v,hv,Rep.mono q2 _ _ hx⟩
theorem rowC_env {n : Nat} {ts : NL AV} {H H' : NL ABlk} (id r j : Nat) {blk : ABlk} {row : List AV} {x x' : AV} {rd wr : List Nat} {A : Prop} (hb : lk H id = some blk) (hk : blk.kind = 2) (hi : blk.inl = false) (hrow : blk.rows[r]? = some row) (hj : row[j]? = some x)
   (hf : (frqT true x).run H = some ⟨x',H',rd,wr,A⟩) (hb' : lk H' id = some blk) :
   ∀ a E,SR ⟨n,ts,H⟩ a E → ∃ E1,E1.w = E.w ∧ Step E E1 ∧ SR ⟨n,ts,st H' id { blk with rows:=blk.rows.set r (row.set j x') }⟩ a E1 :=
 rowG_env id r hb hk hi hrow (fun a E hs vs hrep=>by
   simp only [Rep] at hrep
   obtain ⟨cs,hcs,hl⟩:=hrep
   cases hcs
   obtain ⟨v,hv,hx⟩:=hl.get hj
   obtain ⟨E1,e1,e2,e3,e4,e5⟩:=frqT_run hs.heap hs.hr hx hf
   refine ⟨E1,e1,e4,⟨e2,e3,hs.defers,hs.size,fun t' x hx=>?_⟩, ?_⟩
   · obtain ⟨v,hv,hx⟩:=hs.tmps t' x hx
     exact ⟨v,hv,Rep.mono e4 _ _ hx⟩
   · simp only [Rep]
     refine ⟨_,rfl,RepL_of_cells (us:=vs.toList) (by rw [List.length_set]; exact hl.length) (fun i y u g1 g2=>?_) _ rfl⟩
     by_cases e : i = j
     · subst e
       rw [List.getElem?_set_self (List.getElem?_eq_some_iff.1 hj).1] at g1
       cases g1
       rw [g2] at hv
       cases hv
       exact e5
     · rw [List.getElem?_set_ne (fun q=>e q.symm)] at g1
       obtain ⟨v2,hv2,hx2⟩:=hl.get g1
       rw [g2] at hv2
       cases hv2
       exact Rep.mono e4 _ _ hx2) hb'
theorem rowPh_env {n : Nat} {ts : NL AV} {H : NL ABlk} (id r j k elem size : Nat) (inl : Bool) {blk : ABlk} {row : List AV} (hb : lk H id = some blk) (hk : blk.kind = 2) (hi : blk.inl = false) (hrow : blk.rows[r]? = some row) (hj : row[j]? = some .nils)
   (hid : lk H k = none) (h0 : 0 < size) :
   ∀ a E,SR ⟨n,ts,H⟩ a E → ∃ E1,E1.w = E.w ∧ Step E E1 ∧ SR ⟨n,ts,st ((k, { gen:=0,kind:=2,elem,size,inl,rows:=[] }) :: H) id { blk with rows:=blk.rows.set r (row.set j (.sl k 0 0 0)) }⟩ a E1 :=
 rowG_env id r hb hk hi hrow (fun a E hs vs hrep=>by
   have hn : E.H k = none:=by rw [hs.heap]; exact hid
   obtain ⟨h1,h2⟩:=hs.hr.phantom (id:=k) (blk:={ gen:=0,kind:=2,elem,size,inl,rows:=[] }) rfl (fun old ho=>by rw [hn] at ho; cases ho) h0 rfl
   refine ⟨⟨E.w,upd E.H k (some { gen:=0,kind:=2,elem,size,inl,rows:=[] }),E.φ,upd E.cs k 0,E.F⟩,rfl,h2,⟨?_,h1,hs.defers,hs.size,fun t' x hx=>?_⟩, ?_⟩
   · funext i
     by_cases e : k = i
     · subst e; simp [lk,upd_same]
     · simp only [lk,upd_other _ _ _ e,hs.heap,if_neg e]
   · obtain ⟨v,hv,hx⟩:=hs.tmps t' x hx
     exact ⟨v,hv,Rep.mono h2 _ _ hx⟩
   · have hrep2:=Rep.mono h2 _ _ hrep
     simp only [Rep] at hrep hrep2 ⊢
     obtain ⟨cs,hcs,hl⟩:=hrep
     obtain ⟨cs2,hcs2,hl2⟩:=hrep2
     cases hcs
     cases hcs2
     refine ⟨_,rfl,RepL_of_cells (us:=vs.toList) (by rw [List.length_set]; exact hl.length) (fun i x u g1 g2=>?_) _ rfl⟩
     by_cases e : i = j
     · subst e
       have hlt:=(List.getElem?_eq_some_iff.1 hj).1
       rw [List.getElem?_set_self hlt] at g1
       cases g1
       obtain ⟨v,hv,hx⟩:=hl.get hj
       rw [g2] at hv
       cases hv
       simp only [Rep] at hx
       subst hx
       simp only [Rep,upd_same]
       exact ⟨_,none,0,0,rfl,Nat.le_refl _,rfl,fun _=>⟨.inr rfl,rfl,Nat.le_refl _,Nat.zero_le _,fun h=>absurd h (by omega)⟩⟩
     · rw [List.getElem?_set_ne (fun q=>e q.symm)] at g1
       obtain ⟨v,hv,hx⟩:=hl2.get g1
       rw [g2] at hv
       cases hv
       exact hx) (by
   have : id ≠ k:=fun e=>by rw [e,hid] at hb; cases hb
   simp only [lk,if_neg (Ne.symm this)]
   exact hb)
theorem W.frzC {Q : AS → Prop} {c : Code} {fs : List Fr} {n : Nat} {ts : NL AV} {H H' : NL ABlk} (id r j : Nat) {blk : ABlk} {row : List AV} {x x' : AV} {rd wr : List Nat} {A : Prop} (hb : lk H id = some blk) (hk : blk.kind = 2) (hi : blk.inl = false) (hrow : blk.rows[r]? = some row) (hj : row[j]? = some x)
   (hf : (frqT true x).run H = some ⟨x',H',rd,wr,A⟩) (hb' : lk H' id = some blk) (h : W P Q c fs ⟨n,ts,st H' id { blk with rows:=blk.rows.set r (row.set j x') }⟩) : W P Q c fs ⟨n,ts,H⟩:=W.env (rowC_env id r j hb hk hi hrow hj hf hb') h
theorem W.phR {Q : AS → Prop} {c : Code} {fs : List Fr} {n : Nat} {ts : NL AV} {H : NL ABlk} (id r j k elem size : Nat) (inl : Bool) {blk : ABlk} {row : List AV} (hb : lk H id = some blk) (hk : blk.kind = 2) (hi : blk.inl = false) (hrow : blk.rows[r]? = some row) (hj : row[j]? = some .nils)
   (hid : lk H k = none) (h0 : 0 < size) (h : W P Q c fs ⟨n,ts,st ((k, { gen:=0,kind:=2,elem,size,inl,rows:=[] }) :: H) id { blk with rows:=blk.rows.set r (row.set j (.sl k 0 0 0)) }⟩) : W P Q c fs ⟨n,ts,H⟩:=W.env (rowPh_env id r j k elem size inl hb hk hi hrow hj hid h0) h
theorem W.shrink {c : Code} {Q : AS → Prop} {fs : List Fr} {n t id g k : Nat} {ts : NL AV} {H : NL ABlk} {blk : ABlk} (ht : lk ts t = some (.sl id g 0 k)) (hb : lk H id = some blk) (hg : blk.gen = g) (hk : blk.kind = 2)
   (h : W P Q c fs ⟨n,(t, .sl id (g + 1) 0 k) :: ts,st H id { blk with gen:=g + 1,rows:=blk.rows.take k }⟩) : W P Q c fs ⟨n,ts,H⟩:=by
 refine W.env (fun a E hs=>?_) h
 have hbE : E.H id = some blk:=by rw [hs.heap]; exact hb
 obtain ⟨q1,q2⟩:=hs.hr.shrink hbE hk k
 refine ⟨⟨E.w,upd E.H id (some { blk with gen:=blk.gen + 1,rows:=blk.rows.take k }),E.φ,E.cs,E.F⟩,rfl,q2, ?_,q1,hs.defers,hs.size,fun t' x hx=>?_⟩
 · subst hg
   show upd E.H id _ = lk (st H id _)
   rw [lk_st_upd, ← hs.heap]
 · simp only [lk] at hx
   split at hx
   · rename_i e
     subst e
     simp only [Option.some.injEq] at hx
     subst hx
     obtain ⟨v,hv,hx⟩:=hs.tmps t _ ht
     refine ⟨v,hv, ?_⟩
     simp only [Rep] at hx
     obtain ⟨b,a,len',cap,k1,k2,rfl,k3⟩:=hx
     rw [hbE] at k1; cases k1
     obtain ⟨j1,j2,j3,j4,j5⟩:=k3 hg
     simp only [Rep,upd_same]
     exact ⟨_,a,len',cap,rfl,by simp [hg],rfl,fun _=>⟨.inr hk,j2,j3,j4,j5⟩⟩
   · obtain ⟨v,hv,hx⟩:=hs.tmps t' x hx
     exact ⟨v,hv,Rep.mono q2 _ _ hx⟩
def cS : Code → Code
 | .scope c=>c
 | _ => .skip
theorem post_goto {Q : AS → Prop} {l : Nat} : ∀ (fs : List Fr) {σ : AS},post P Q fs (.goto l) σ → False
 | [],_,h=>by rcases h.1 with h | h <;> cases h
 | .seq _ :: fs,_,h=>post_goto fs h
 | .blk _ :: fs,_,h=>post_goto fs h
 | .loop _ :: fs,_,h=>post_goto fs h
theorem W.scope {Q : AS → Prop} {c : Code} {fs : List Fr} {σ : AS} (hc : c = .scope (cS c)) (h : W P Q (cS c) fs σ) : W P Q c fs σ := by
 refine ⟨fun hs=>?_⟩
 obtain ⟨e, τ,h1,h2⟩:=h.h hs
 refine ⟨e, τ,h1,fun a E hs=>?_⟩
 rw [hc]
 refine wp_scope_straight (wp_mono (h2 a E hs) fun e' a' w' hp=>?_)
 obtain ⟨σ',E',rfl,g1,g2,rfl,rfl⟩:=hp
 cases e' with
 | goto l=>exact (post_goto fs h1).elim
 | _=>exact ⟨_,E',rfl,g1,g2,rfl,rfl⟩
theorem W.label {Q : AS → Prop} {c : Code} {fs : List Fr} {σ : AS} {l : Nat} (hc : c = .label l) (h : N P Q fs σ) : W P Q c fs σ := by
 refine ⟨fun hs=>⟨.normal, σ,h.h,fun a E hs=>?_⟩⟩
 rw [hc]
 exact wp_label ⟨σ,E,rfl,hs,Step.refl E,rfl,rfl⟩
theorem W.cutS {Q : AS → Prop} {a y : Code} {fs : List Fr} {σ : AS} (hy : y = .seq (cL y) (cR y)) (M : AS → Prop) (h1 : W P Q a (.seq (cL y) :: .loop M :: fs) σ) (h2 : ∀ σ',M σ' → W P Q (cR y) fs σ') : W P Q a (.seq y :: fs) σ := by
 refine ⟨h1.h.mono fun e σ h=>?_⟩
 cases e with
 | normal =>
   have h : WP P (cL y) (post P Q (.loop M :: fs)) σ:=h
   show WP P y (post P Q fs) σ
   rw [hy]
   refine WP.seq (h.mono fun e σ h=>?_)
   cases e with
   | normal=>exact (h2 σ h).h
   | _=>exact h
 | _=>exact h
end
end Go.Abs
namespace Go.Abs
open Go Go.Sort
set_option linter.unusedVariables false
section
variable {P : Program}
end
end Go.Abs
namespace Go.Abs
section
theorem W.cutT {P : Program} {Q : AS → Prop} {a b y : Code} {fs : List Fr} {σ : AS} (M : AS → Prop) (h1 : W P Q a (.seq b :: .loop M :: fs) σ) (h2 : ∀ σ',M σ' → W P Q y fs σ') : W P Q a (.seq b :: .seq y :: fs) σ := by
 have key : ∀ e σ,post P Q (.loop M :: fs) e σ → post P Q (.seq y :: fs) e σ:=fun e σ h=>by
   cases e with
   | normal=>exact (h2 σ h).h
   | _=>exact h
 refine ⟨h1.h.mono fun e σ h=>?_⟩
 cases e with
 | normal=>exact WP.mono h fun e σ h=>key e σ h
 | exit i=>exact key (.exit i) σ h
 | goto i=>exact key (.goto i) σ h
 | ret=>exact key .ret σ h
 | panic c=>exact key (.panic c) σ h
 | outgrown=>exact key .outgrown σ h
end
end Go.Abs
namespace Go.Abs
open Go
set_option linter.unusedVariables false
set_option linter.unusedSimpArgs false
section
theorem HR.move {E : Env} (hr : HR E) {id new : Nat} {blk : ABlk} (hb : E.H id = some blk) (hk : blk.kind = 2) (hn : E.H new = none) :
   HR ⟨E.w,upd (upd E.H id (some { gen:=blk.gen + 1 })) new (some { blk with gen:=0 }),upd E.φ new (E.φ id),upd E.cs new (E.cs id),E.F⟩ ∧
   Step E ⟨E.w,upd (upd E.H id (some { gen:=blk.gen + 1 })) new (some { blk with gen:=0 }),upd E.φ new (E.φ id),upd E.cs new (E.cs id),E.F⟩:=by
 have hne : new ≠ id:=fun e=>by subst e; rw [hn] at hb; cases hb
 have hid : upd (upd E.H id (some { gen:=blk.gen + 1 })) new (some { blk with gen:=0 }) id = some { gen:=blk.gen + 1 }:=by rw [upd_other _ _ _ hne,upd_same]
 have hot : ∀ k,k ≠ id → k ≠ new → upd (upd E.H id (some { gen:=blk.gen + 1 })) new (some { blk with gen:=0 }) k = E.H k:=fun k h1 h2=>by
   rw [upd_other _ _ _ (Ne.symm h2),upd_other _ _ _ (Ne.symm h1)]
 have hst : Step E ⟨E.w,upd (upd E.H id (some { gen:=blk.gen + 1 })) new (some { blk with gen:=0 }),upd E.φ new (E.φ id),upd E.cs new (E.cs id),E.F⟩:=by
   refine ⟨Nat.le_refl _,fun b _ _=>rfl,rfl,fun k b hbk=>?_,fun k b' hbk hkk hck=>?_,Kept.refl _⟩
   · have e1 : k ≠ new:=fun e=>by subst e; rw [hn] at hbk; cases hbk
     by_cases e : k = id
     · subst e
       rw [hb] at hbk; cases hbk
       exact ⟨_,hid,Nat.le_succ _,fun h=>absurd h (by simp)⟩
     · exact ⟨b,by simp only; rw [hot k e e1]; exact hbk,Nat.le_refl _,fun _ _=>⟨.inl rfl,rfl,rfl,upd_other _ _ _ (Ne.symm e1),upd_other _ _ _ (Ne.symm e1)⟩⟩
   · left
     by_cases e1 : k = new
     · subst e1
       simp only [upd_same] at hbk hck ⊢
       exact ⟨id,blk,hb,by omega,hck,rfl, .inr ⟨_,hid,Nat.lt_succ_self _⟩⟩
     · by_cases e : k = id
       · subst e
         simp only at hbk
         rw [hid] at hbk
         simp only [Option.some.injEq] at hbk
         subst hbk
         simp at hkk
       · simp only at hbk hck ⊢
         rw [hot k e e1] at hbk
         rw [upd_other _ _ _ (Ne.symm e1)] at hck
         exact ⟨k,b',hbk,hkk,hck,upd_other _ _ _ (Ne.symm e1), .inl rfl⟩
 refine ⟨⟨fun k b hbk=>?_,fun i j bi bj hi hj ki kj ci cj hij=>?_,fun k b hbk hkk hck=>?_,hr.fb⟩,hst⟩
 · by_cases e1 : k = new
   · subst e1
     simp only [upd_same,Option.some.injEq] at hbk
     subst hbk
     obtain ⟨C,a1,a2,a3,a4,a5,a6⟩:=hr.cells hb (.inr hk)
     unfold BlkOK
     simp only [hk,upd_same]
     exact ⟨C,a1,a2,a3,a4,a5,fun r row j x h1 h2=>by
       obtain ⟨u,b1,b2,b3⟩:=a6 r row j x h1 h2
       exact ⟨u,b1,b2,by simpa only [hk] using b3.mono hst⟩⟩
   · by_cases e : k = id
     · subst e
       simp only at hbk
       rw [hid] at hbk
       simp only [Option.some.injEq] at hbk
       subst hbk
       unfold BlkOK
       trivial
     · simp only at hbk
       rw [hot k e e1] at hbk
       exact BlkOK.mono hst (upd_other _ _ _ (Ne.symm e1)) (upd_other _ _ _ (Ne.symm e1)) (fun _ _=>rfl) (hr.blk k b hbk)
 · simp only at hi hj ci cj ⊢
   have key : ∀ k b,upd (upd E.H id (some { gen:=blk.gen + 1 })) new (some { blk with gen:=0 }) k = some b → b.kind ≠ 0 → 0 < upd E.cs new (E.cs id) k → ∃ k0 b0,E.H k0 = some b0 ∧ b0.kind ≠ 0 ∧ 0 < E.cs k0 ∧ upd E.φ new (E.φ id) k = E.φ k0 ∧ ((k = new ∧ k0 = id) ∨ (k ≠ new ∧ k ≠ id ∧ k0 = k)):=fun k b h1 h2 h3=>by
     by_cases e1 : k = new
     · subst e1
       rw [upd_same] at h3 ⊢
       exact ⟨id,blk,hb,by omega,h3,rfl, .inl ⟨rfl,rfl⟩⟩
     · have e : k ≠ id:=fun e=>by
         subst e
         rw [hid] at h1
         simp only [Option.some.injEq] at h1
         subst h1
         exact h2 rfl
       rw [hot k e e1] at h1
       rw [upd_other _ _ _ (Ne.symm e1)] at h3 ⊢
       exact ⟨k,b,h1,h2,h3,rfl, .inr ⟨e1,e,rfl⟩⟩
   obtain ⟨i0,b0,p1,p2,p3,p4,p5⟩:=key i bi hi ki ci
   obtain ⟨j0,b1,q1,q2,q3,q4,q5⟩:=key j bj hj kj cj
   rw [p4,q4]
   refine hr.inj i0 j0 b0 b1 p1 q1 p2 q2 p3 q3 ?_
   rcases p5 with ⟨rfl,rfl⟩ | ⟨p5,p6,rfl⟩ <;> rcases q5 with ⟨rfl,rfl⟩ | ⟨q5,q6,rfl⟩
   · exact absurd rfl hij
   · exact Ne.symm q6
   · exact p6
   · exact hij
 · by_cases e1 : k = new
   · subst e1
     simp only [upd_same] at hck ⊢
     exact hr.nf id blk hb (by omega) hck
   · simp only at hbk hck ⊢
     have e : k ≠ id:=fun e=>by
       subst e
       rw [hid] at hbk
       simp only [Option.some.injEq] at hbk
       subst hbk
       exact hkk rfl
     rw [hot k e e1] at hbk
     rw [upd_other _ _ _ (Ne.symm e1)] at hck ⊢
     exact hr.nf k b hbk hkk hck
theorem mv_env {n t new : Nat} {ts : NL AV} {H : NL ABlk} {id g off len : Nat} {blk : ABlk} (ht : lk ts t = some (.sl id g off len)) (hb : lk H id = some blk) (hg : blk.gen = g) (hk : blk.kind = 2) (hn : lk H new = none) :
   ∀ a E,SR ⟨n,ts,H⟩ a E → ∃ E1,E1.w = E.w ∧ Step E E1 ∧ SR ⟨n,(t, .sl new 0 off len) :: ts,(new, { blk with gen:=0 }) :: (id, { gen:=g + 1 }) :: H⟩ a E1:=fun a E hs=>by
 subst hg
 have hb' : E.H id = some blk:=by rw [hs.heap]; exact hb
 have hn' : E.H new = none:=by rw [hs.heap]; exact hn
 obtain ⟨h1,h2⟩:=hs.hr.move hb' hk hn'
 refine ⟨⟨E.w,upd (upd E.H id (some { gen:=blk.gen + 1 })) new (some { blk with gen:=0 }),upd E.φ new (E.φ id),upd E.cs new (E.cs id),E.F⟩,rfl,h2, ?_,h1,hs.defers,hs.size,fun t' x hx=>?_⟩
 · funext i
   by_cases e : new = i
   · subst e; simp [lk,upd_same]
   · by_cases e2 : id = i
     · subst e2; simp [lk,upd_same,upd_other _ _ _ e,e]
     · simp only [lk,if_neg e,if_neg e2,upd_other _ _ _ e,upd_other _ _ _ e2,hs.heap]
 · simp only [lk] at hx
   split at hx
   · rename_i e
     subst e
     simp only [Option.some.injEq] at hx
     subst hx
     obtain ⟨v,hv,hx⟩:=hs.tmps t _ ht
     refine ⟨v,hv, ?_⟩
     simp only [Rep] at hx ⊢
     obtain ⟨b0,ad,len',cap,q1,q2,rfl,q3⟩:=hx
     rw [hb'] at q1
     cases q1
     obtain ⟨k1,k2,k3,k4,k5⟩:=q3 rfl
     exact ⟨{ blk with gen:=0 },ad,len',cap,upd_same _ _ _,Nat.le_refl _,rfl,fun _=>⟨k1,k2,k3,k4,fun hp=>by simp only [upd_same]; exact k5 hp⟩⟩
   · obtain ⟨v,hv,hx⟩:=hs.tmps t' x hx
     exact ⟨v,hv,Rep.mono h2 _ _ hx⟩
theorem W.mv {P : Program} {c : Code} {Q : AS → Prop} {fs : List Fr} {n : Nat} (t new : Nat) {ts : NL AV} {H : NL ABlk} {id g off len : Nat} {blk : ABlk} (ht : lk ts t = some (.sl id g off len)) (hb : lk H id = some blk) (hg : blk.gen = g) (hk : blk.kind = 2) (hn : lk H new = none)
   (h : W P Q c fs ⟨n,(t, .sl new 0 off len) :: ts,(new, { blk with gen:=0 }) :: (id, { gen:=g + 1 }) :: H⟩) : W P Q c fs ⟨n,ts,H⟩:=W.env (mv_env ht hb hg hk hn) h
theorem HR.setI {E : Env} (hr : HR E) {id : Nat} {blk : ABlk} {b : Bool} (hb : E.H id = some blk) (hk : blk.kind = 2) (hall : b = true → blk.rows.all (fun r => r.all AV.isInl) = true) :
   HR ⟨E.w,upd E.H id (some { blk with inl:=b }),E.φ,E.cs,E.F⟩ ∧ Step E ⟨E.w,upd E.H id (some { blk with inl:=b }),E.φ,E.cs,E.F⟩:=by
 have hst : Step E ⟨E.w,upd E.H id (some { blk with inl:=b }),E.φ,E.cs,E.F⟩:=by
   refine ⟨Nat.le_refl _,fun b _ _=>rfl,rfl,fun k b' hbk=>?_,fun k b' hbk hkk hck=>?_,Kept.refl _⟩
   · by_cases e : id = k
     · subst e
       rw [hb] at hbk; cases hbk
       exact ⟨_,upd_same _ _ _,Nat.le_refl _,fun _ _=>⟨.inl rfl,rfl,rfl,rfl,rfl⟩⟩
     · exact ⟨b',by simp [upd_other _ _ _ e,hbk],Nat.le_refl _,fun _ _=>⟨.inl rfl,rfl,rfl,rfl,rfl⟩⟩
   · left
     by_cases e : id = k
     · subst e; exact ⟨id,blk,hb,by omega,hck,rfl, .inl rfl⟩
     · exact ⟨k,b',by simpa [upd_other _ _ _ e] using hbk,hkk,hck,rfl, .inl rfl⟩
 have hex : ∀ k b',upd E.H id (some { blk with inl:=b }) k = some b' → ∃ b0,E.H k = some b0 ∧ b'.kind = b0.kind:=fun k b' h=>by
   by_cases e : id = k
   · subst e
     rw [upd_same] at h; cases h
     exact ⟨blk,hb,rfl⟩
   · rw [upd_other _ _ _ e] at h
     exact ⟨b',h,rfl⟩
 refine ⟨⟨fun k b' hbk=>?_,fun i j bi bj hi hj ki kj ci cj hij=>?_,fun k b' hbk hkk hck=>?_,hr.fb⟩,hst⟩
 · by_cases e : id = k
   · subst e
     simp only [upd_same,Option.some.injEq] at hbk
     subst hbk
     obtain ⟨C,a1,a2,a3,a4,a5,a6⟩:=hr.cells hb (.inr hk)
     unfold BlkOK
     simp only [hk]
     refine ⟨C,a1,a2,a3,a4,a5,fun r row j x h1 h2=>?_⟩
     obtain ⟨u,b1,b2,b3⟩:=a6 r row j x h1 h2
     refine ⟨u,b1,b2, ?_⟩
     have b4:=Rep.mono hst _ _ b3.rep
     simp only [hk] at b4
     cases b with
     | false=>exact b4
     | true =>
       have:=List.all_eq_true.1 (List.all_eq_true.1 (hall rfl) row (List.mem_of_getElem? h1)) x (List.mem_of_getElem? h2)
       exact isInl_rep b4 this
   · simp only [upd_other _ _ _ e] at hbk
     exact BlkOK.mono hst rfl rfl (fun _ _=>rfl) (hr.blk k b' hbk)
 · obtain ⟨b0,p1,p2⟩:=hex i bi hi
   obtain ⟨b1,q1,q2⟩:=hex j bj hj
   exact hr.inj i j b0 b1 p1 q1 (by omega) (by omega) ci cj hij
 · obtain ⟨b0,p1,p2⟩:=hex k b' hbk
   exact hr.nf k b0 p1 (by omega) hck
theorem W.setI {P : Program} {c : Code} {Q : AS → Prop} {fs : List Fr} {n : Nat} (id : Nat) (b : Bool) {ts : NL AV} {H : NL ABlk} {blk : ABlk} (hb : lk H id = some blk) (hk : blk.kind = 2) (hall : b = true → blk.rows.all (fun r => r.all AV.isInl) = true)
   (h : W P Q c fs ⟨n,ts,(id, { blk with inl:=b }) :: H⟩) : W P Q c fs ⟨n,ts,H⟩:=by
 refine W.env (fun a E hs=>?_) h
 have hb' : E.H id = some blk:=by rw [hs.heap]; exact hb
 obtain ⟨h1,h2⟩:=hs.hr.setI (b:=b) hb' hk hall
 refine ⟨⟨E.w,upd E.H id (some { blk with inl:=b }),E.φ,E.cs,E.F⟩,rfl,h2, ?_,h1,hs.defers,hs.size,fun t' x hx=>?_⟩
 · funext i
   by_cases e : id = i
   · subst e; simp [lk,upd_same]
   · simp only [lk,if_neg e,upd_other _ _ _ e,hs.heap]
 · obtain ⟨v,hv,hx⟩:=hs.tmps t' x hx
   exact ⟨v,hv,Rep.mono h2 _ _ hx⟩
end
end Go.Abs
namespace Go.Abs
open Go Go.ChangeShapes Go.WideShapes Go.Deep Go.ChangeAt Go.RowKit
set_option linter.unusedVariables false
section
structure SmD {H : Type} (M : Nat) (B : DataW H → Prop) : Prop where
 slice : ∀ el sp,B (.slice el sp) → el.length ≤ M ∧ ∀ d ∈ el,B d
 agg : ∀ l,B (.agg l) → ∀ d ∈ l,B d
theorem bdL_app {M : Nat} : ∀ {a b : List AV},bdL M a = true → bdL M b = true → bdL M (a ++ b) = true
 | [],_,_,h=>h
 | x :: r,b,h1,h2=>by
   rw [bdL,Bool.and_eq_true] at h1
   rw [List.cons_append,bdL,h1.1,bdL_app h1.2 h2]
   rfl
theorem TyFs.bd {M : Nat} {q : TypeId → List AV → Prop} : ∀ {ts : List TypeId} {xs : List AV},TyFs (fun t xs => q t xs ∧ bdL M xs = true) ts xs → TyFs q ts xs ∧ bdL M xs = true
 | [],xs,h=>by
   have h : xs = []:=h
   subst h
   exact ⟨rfl,rfl⟩
 | t :: r,xs,⟨a,b,e,h1,h2⟩=>by
   subst e
   obtain ⟨h3,h4⟩:=TyFs.bd h2
   exact ⟨⟨a,b,rfl,h1.1,h3⟩,bdL_app h1.2 h4⟩
theorem trod_rep_bd {H : Type} {enc : TypeId × Value → H} {P : Program} {w : World} {base : Nat} {spare : Nat → Bool} {held : Bool} {M : Nat} {B : DataW H → Prop} (hB : SmD M B) : ∀ (n : Nat) (t : TypeId) (fuel : Nat) (cs : List Value) (x : DataW H × List MemPlace),plainT P n t = true →
   DataW.trod enc P w base spare held fuel t cs = some x → B x.1 → cs.length = P.cellsOf t ∧ ∃ xs,(TyR P n t xs ∧ bdL M xs = true) ∧ RepIL w (fun b=>b < w.heap.size) xs cs
 | 0,_,_,_,_,h,_,_=>by simp [plainT] at h
 | n + 1, t, fuel, cs, x, h, ht, hx => by
   unfold plainT at h
   unfold TyR
   split at h
   · rename_i hu
     obtain ⟨b,rfl,_⟩:=DataW.trod_bool hu ht
     exact ⟨by simpa using Eq.symm (beq_iff_eq.1 h),[.bool b],⟨⟨b,rfl⟩,rfl⟩,by simp [RepIL,RepI]⟩
   · rename_i k hu
     obtain ⟨m,rfl,_,hwf⟩:=DataW.trod_int hu ht
     exact ⟨by simpa using Eq.symm (beq_iff_eq.1 h),[.int k m],⟨⟨m,rfl,hwf⟩,rfl⟩,by simp [RepIL,RepI]⟩
   · rename_i hu
     obtain ⟨s,rfl,_,hs⟩:=DataW.trod_string hu ht
     exact ⟨by simpa using Eq.symm (beq_iff_eq.1 h),[.str s],⟨⟨s,rfl,hs⟩,rfl⟩,by simp [RepIL,RepI]⟩
   · rename_i e hu
     simp only [Bool.and_eq_true,beq_iff_eq,decide_eq_true_eq] at h
     obtain ⟨⟨h1,h2⟩,h3⟩:=h
     rcases open_slice hu ht with ⟨rfl,_⟩ | ⟨a,len,cap,m,k,D,Pl,rfl,hb,hl,hm,hmm,hxe,hel⟩
     · exact ⟨by simpa using h1.symm,[.list (P.cellsOf e) []],⟨⟨[],rfl,Nat.zero_le _,by simp⟩,by simp [bdL,bdV,bdRows]⟩,by simp [RepIL,RepI]⟩
     · rw [hxe] at hx
       obtain ⟨hlM,hD⟩:=hB.slice _ _ hx
       rw [List.length_map,List.length_range] at hlM
       have hlm : len ≤ m:=by rw [hmm]; split <;> omega
       have hspot0 : 0 < len → a.spot = none ∧ a.block < w.heap.size:=fun h0=>by
         obtain ⟨cs',hc,ht'⟩:=hel 0 (by omega)
         obtain ⟨_,hcl,hat⟩:=World.cells?_some hc
         have h0 : w.cell? ((a.add (0 * P.cellsOf e)).add 0) = cs'[0]?:=hat 0 h2
         have ha : (a.add (0 * P.cellsOf e)).add 0 = a:=by simp [Addr.add]
         rw [ha,List.getElem?_eq_getElem (by omega)] at h0
         unfold World.cell? at h0
         split at h0
         · rename_i c _ _ hbk
           split at h0
           · cases h0
           · rename_i hsp
             exact ⟨by simpa using hsp,(Array.getElem?_eq_some_iff.1 hbk).1⟩
         · cases h0
       obtain ⟨rows,r1,r2⟩:=list_choice (Q:=fun i row=>(TyR P n e row ∧ bdL M row = true) ∧ row.length = P.cellsOf e ∧ (a.spot = none ∧ a.block < w.heap.size) ∧ RepC w (fun b=>b < w.heap.size) row a.block (a.off + i * P.cellsOf e)) len (fun i hi=>by
         obtain ⟨cs',hc,ht'⟩:=hel i (by omega)
         obtain ⟨q1,xs,q2,q3⟩:=trod_rep_bd hB n e k cs' _ h3 ht' (hD _ (List.mem_map.2 ⟨i,List.mem_range.2 hi,rfl⟩))
         obtain ⟨_,hcl,hat⟩:=World.cells?_some hc
         have hlen : xs.length = P.cellsOf e:=by rw [q3.len,hcl]
         have hcell : ∀ j,j < P.cellsOf e → w.cell? ((a.add (i * P.cellsOf e)).add j) = cs'[j]?:=hat
         have hspot : a.spot = none ∧ a.block < w.heap.size:=hspot0 (by omega)
         refine ⟨xs,q2,hlen,hspot,RepC.of_get fun j y hy=>?_⟩
         obtain ⟨v,hv,hyv⟩:=q3.at hy
         have hj : j < P.cellsOf e:=by have:=(List.getElem?_eq_some_iff.1 hy).1; omega
         have hj2:=hcell j hj
         rw [hv] at hj2
         refine ⟨v, ?_, ?_,hyv⟩
         · rw [← hj2]
           congr 1
           obtain ⟨ab,ao,asp⟩:=a
           simp only at hspot
           rw [hspot.1]
           unfold Addr.add
           split <;> split <;> simp <;> omega
         · exact plain_one (List.all_eq_true.1 (TyR.all n e xs q2.1) y (List.mem_of_getElem? hy)) hyv)
       refine ⟨by simpa using h1.symm,[.list (P.cellsOf e) rows],⟨⟨rows,rfl,by omega,fun row hrow=>?_⟩, ?_⟩, ?_⟩
       · obtain ⟨i,hi⟩:=List.mem_iff_getElem?.1 hrow
         exact (r2 i row hi).1.1
       · have : bdRows M rows = true:=bdRows_of fun row hrow=>by
           obtain ⟨i,hi⟩:=List.mem_iff_getElem?.1 hrow
           exact (r2 i row hi).1.2
         simp only [bdL,bdV,this,Bool.and_true,decide_eq_true_eq]
         omega
       · simp only [RepIL,RepI]
         refine ⟨_,[],rfl, .inr ⟨a,cap,by rw [r1],by omega,hm,fun hne=>?_,RepRows.of_get fun i row hi=>⟨(r2 i row hi).2.1,(r2 i row hi).2.2.2⟩⟩,rfl⟩
         match rows,hne,r2 with
         | row :: _,_,r2=>exact (r2 0 row (by simp)).2.2.1
   · rename_i fs hu
     simp only [Bool.and_eq_true,List.all_eq_true] at h
     obtain ⟨ys,m,rfl,rfl,hlen,hyl,hf⟩:=DataW.trod_struct hu ht
     obtain ⟨t1,t2⟩:=tile_sum _ _ _ h.1
     refine ⟨hlen, ?_⟩
     have:=pieces_rep (w:=w) (I:=fun b=>b < w.heap.size) (q:=fun t xs=>TyR P n t xs ∧ bdL M xs = true) (size:=P.cellsOf) (cs:=cs) (fs.toList.map fun f=>(f.type,f.offset)) 0 (fun p hp=>by
         obtain ⟨f,hfm,rfl⟩:=List.mem_map.1 hp
         obtain ⟨i,hi⟩:=List.mem_iff_getElem?.1 hfm
         have hfi:=hf i f (by simpa using hi)
         have hil : i < ys.length:=by
           have:=(List.getElem?_eq_some_iff.1 hi).1
           simp only [Array.length_toList] at this
           omega
         rw [List.getElem?_eq_getElem hil] at hfi
         obtain ⟨_,xs,q1,q2⟩:=trod_rep_bd hB n f.type m _ _ (h.2 f hfm) hfi (hB.agg _ hx _ (List.mem_map.2 ⟨_,List.getElem_mem hil,rfl⟩))
         exact ⟨xs,q1,q2⟩)
       (fun i p hp=>by
         simp only [List.getElem?_map,Option.map_eq_some_iff] at hp
         obtain ⟨f,hfi,rfl⟩:=hp
         have:=t2 i f hfi
         simpa [List.map_take,List.map_map,Function.comp_def] using this)
       (by rw [hlen]; simpa [List.map_map,Function.comp_def] using t1)
     obtain ⟨xs,q1,q2⟩:=this
     obtain ⟨q1,q3⟩:=TyFs.bd q1
     refine ⟨xs,⟨by simpa [List.map_map,Function.comp_def] using q1,q3⟩,by simpa using q2⟩
   · rename_i k e hu
     simp only [Bool.and_eq_true,beq_iff_eq] at h
     obtain ⟨ys,m,rfl,rfl,hlen,hyl,hf⟩:=DataW.trod_array hu ht
     refine ⟨hlen, ?_⟩
     have:=pieces_rep (w:=w) (I:=fun b=>b < w.heap.size) (q:=fun t xs=>TyR P n t xs ∧ bdL M xs = true) (size:=P.cellsOf) (cs:=cs) ((List.range k).map fun i=>(e,i * P.cellsOf e)) 0 (fun p hp=>by
         obtain ⟨i,hi,rfl⟩:=List.mem_map.1 hp
         have hik : i < k:=by simpa using hi
         have hfi:=hf i hik
         rw [List.getElem?_eq_getElem (by omega)] at hfi
         obtain ⟨_,xs,q1,q2⟩:=trod_rep_bd hB n e m _ _ h.2 hfi (hB.agg _ hx _ (List.mem_map.2 ⟨_,List.getElem_mem _,rfl⟩))
         exact ⟨xs,q1,q2⟩)
       (fun i p hp=>by
         simp only [List.getElem?_map,Option.map_eq_some_iff] at hp
         obtain ⟨j,hj,rfl⟩:=hp
         have hlt : i < k:=by have:=(List.getElem?_eq_some_iff.1 hj).1; simpa using this
         rw [List.getElem?_range (by have:=(List.getElem?_eq_some_iff.1 hj).1; simpa using this)] at hj
         simp only [Option.some.injEq] at hj
         subst hj
         simp only [List.map_take,List.map_map,Function.comp_def,List.map_const',List.length_range,List.take_replicate,sum_rep,Nat.zero_add]
         simp [Nat.min_eq_left (Nat.le_of_lt hlt)])
       (by rw [hlen,h.1]; simp [List.map_map,Function.comp_def,List.map_const',sum_rep])
     obtain ⟨xs,q1,q2⟩:=this
     obtain ⟨q1,q3⟩:=TyFs.bd q1
     refine ⟨xs,⟨by simpa [List.map_map,Function.comp_def,List.map_const'] using q1,q3⟩,by simpa using q2⟩
   · cases h
theorem Trod_rep_bd {H : Type} {enc : TypeId × Value → H} {P : Program} {w : World} {base b0 : Nat} {spare : Nat → Bool} {held : Bool} {r : Reach} {n : Nat} {t : TypeId} {v : Value} {d : DataW H} {ps : List MemPlace} (hp : plainT P n t = true)
   {M : Nat} {B : DataW H → Prop} (hB : SmD M B) (hx : B d) (hv : Value.okWide P w r b0 t v) (h : DataW.Trod enc P w base spare held t v d ps) : ∃ x,(TyV P n t x ∧ bdV M x = true) ∧ RepI w (fun b=>b < w.heap.size) x v:=by
 obtain ⟨fuel,hf⟩:=h
 obtain ⟨h1,xs,⟨h2,h2b⟩,h3⟩:=trod_rep_bd hB n t fuel _ _ hp hf hx
 unfold TyV
 have one : (∀ cs,v ≠ .agg cs) → ∃ x,xs = [x] ∧ RepI w (fun b=>b < w.heap.size) x v:=by
   intro hne
   have hc : v.cells.toList = [v]:=by
     cases v with
     | agg cs=>exact absurd rfl (hne cs)
     | _=>rfl
   rw [hc] at h3
   match xs,h3 with
   | [x],h3 =>
     simp only [RepIL] at h3
     obtain ⟨v',vs',he,hx,_⟩:=h3
     simp only [List.cons.injEq] at he
     obtain ⟨rfl,_⟩:=he
     exact ⟨x,rfl,hx⟩
   | [],h3=>simp [RepIL] at h3
   | _ :: _ :: _,h3 =>
     have:=h3.len
     simp at this
 have hv0:=hv
 unfold Value.okWide at hv
 cases n with
 | zero=>simp [plainT] at hp
 | succ n =>
   have hp':=hp
   unfold plainT at hp'
   split at hp'
   all_goals
     rename_i hu
     simp only [hu] at hv ⊢
   case h_5 =>
     obtain ⟨cs,rfl,_⟩:=hv
     exact ⟨.agg xs,⟨⟨xs,rfl,h2⟩,h2b⟩,by simp only [RepI]; exact ⟨cs,rfl,by simpa [Value.cells] using h3⟩⟩
   case h_6 =>
     obtain ⟨cs,rfl,_⟩:=hv
     exact ⟨.agg xs,⟨⟨xs,rfl,h2⟩,h2b⟩,by simp only [RepI]; exact ⟨cs,rfl,by simpa [Value.cells] using h3⟩⟩
   case h_1 =>
     obtain ⟨b,rfl⟩:=okWide_bool hu hv0
     obtain ⟨x,rfl,hx⟩:=one (fun cs h=>by cases h)
     exact ⟨x,⟨h2,by simpa [bdL] using h2b⟩,hx⟩
   case h_2 =>
     obtain ⟨b,rfl⟩:=okWide_int hu hv0
     obtain ⟨x,rfl,hx⟩:=one (fun cs h=>by cases h)
     exact ⟨x,⟨h2,by simpa [bdL] using h2b⟩,hx⟩
   case h_3 =>
     obtain ⟨b,rfl⟩:=okWide_string hu hv0
     obtain ⟨x,rfl,hx⟩:=one (fun cs h=>by cases h)
     exact ⟨x,⟨h2,by simpa [bdL] using h2b⟩,hx⟩
   case h_4 =>
     obtain ⟨a0,len,cap,rfl⟩:=okWide_slice hu hv0
     obtain ⟨x,rfl,hx⟩:=one (fun cs h=>by cases h)
     exact ⟨x,⟨h2,by simpa [bdL] using h2b⟩,hx⟩
   case h_7=>cases hp'
theorem TrodAll_rep_bd {H : Type} {enc : TypeId × Value → H} {P : Program} {w : World} {base b0 : Nat} {spare : Nat → Bool} {held : Bool} {r : Reach} {n : Nat} {M : Nat} {B : DataW H → Prop} (hB : SmD M B) : ∀ (ts : List TypeId) (vs : List Value) (ds : List (DataW H)) (ps : List MemPlace),(∀ t ∈ ts,plainT P n t = true) →
   (∀ (j : Nat) t v,ts[j]? = some t → vs[j]? = some v → Value.okWide P w r b0 t v) → DataW.TrodAll enc P w base spare held ts vs ds ps → (∀ d ∈ ds,B d) → ∃ xs,TyFs (fun t ys => ∃ x,ys = [x] ∧ TyV P n t x ∧ bdV M x = true) ts xs ∧ RepIL w (fun b=>b < w.heap.size) xs vs
 | [],[],[],_,_,_,_,_=>⟨[],rfl,by simp [RepIL]⟩
 | t :: ts,v :: vs,d :: ds,ps,hp,hv,⟨p,q,h1,h2,_⟩,hd=>by
   obtain ⟨x,h3,h4⟩:=Trod_rep_bd (hp t (by simp)) hB (hd d (by simp)) (hv 0 t v rfl rfl) h1
   obtain ⟨xs,h5,h6⟩:=TrodAll_rep_bd hB ts vs ds q (fun t ht=>hp t (by simp [ht])) (fun j t v h1 h2=>hv (j + 1) t v (by simpa using h1) (by simpa using h2)) h2 (fun d h=>hd d (by simp [h]))
   exact ⟨x :: xs,⟨[x],xs,rfl,⟨x,rfl,h3⟩,h5⟩,by simp only [RepIL]; exact ⟨v,vs,rfl,h4,h6⟩⟩
end
end Go.Abs
