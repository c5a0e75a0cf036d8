/- Maps in the abstract frame. Conditions: keys are integers, strings, bools or arrays of integers. -/
import Derived.Test.YtphclapfniepoaaAb2
import Derived.MapFrom
import Derived.WideKeyRuns
import Derived.LaidEql
namespace Go.Abs
open Go
section
theorem HR.newMap {E : Env} (hr : HR E) {id : Nat} {blk : ABlk} {w' : World}
   (hsz' : w'.heap.size = E.w.heap.size + 1 ∧ w'.os = E.w.os ∧ w'.output = E.w.output ∧ w'.tape = E.w.tape) (hold : ∀ b,b < E.w.heap.size → w'.heap[b]? = E.w.heap[b]?) (hnew : w'.heap[E.w.heap.size]? = some (.map #[] 0))
   (hk : blk.kind = 3) (hg : ∀ old,E.H id = some old → old.gen < blk.gen) (hrows : blk.rows = []) :
   HR ⟨w',upd E.H id (some blk),upd E.φ id E.w.heap.size,upd E.cs id 1,E.F⟩ ∧ Step E ⟨w',upd E.H id (some blk),upd E.φ id E.w.heap.size,upd E.cs id 1,E.F⟩:=by
 have hsz:=hsz'.1
 have hs : Step E ⟨w',upd E.H id (some blk),upd E.φ id E.w.heap.size,upd E.cs id 1,E.F⟩:=by
   refine ⟨by simp only; omega,fun b hb _=>hold b hb,rfl,fun k b hb=>?_,fun k b' hb hk' hc'=>?_,Kept.new hsz' hold (by rw [hnew]; trivial)⟩
   · by_cases e : id = k
     · subst e
       exact ⟨blk,by simp [upd_same],Nat.le_of_lt (hg b hb),fun e=>by have:=hg b hb; omega⟩
     · exact ⟨b,by simp [upd_other _ _ _ e,hb],Nat.le_refl _,fun _ _=>⟨.inl rfl,rfl,rfl,by simp [upd_other _ _ _ e],by simp [upd_other _ _ _ e]⟩⟩
   · by_cases e : id = k
     · subst e; right; simp [upd_same]
     · left
       exact ⟨k,b',by simpa [upd_other _ _ _ e] using hb,hk',by simpa [upd_other _ _ _ e] using hc',by simp [upd_other _ _ _ e], .inl rfl⟩
 refine ⟨⟨fun k b hb=>?_,fun i j bi bj hi hj ki kj ci cj hne=>?_,fun k b hb hk' hc'=>?_,fun b hb=>by have:=hr.fb b hb; simp only; omega⟩,hs⟩
 · by_cases e : id = k
   · subst e
     simp only [upd_same,Option.some.injEq] at hb
     subst hb
     unfold BlkOK
     simp only [hk,upd_same]
     exact ⟨by omega, #[],0,hnew,by simp,rfl,by simp [hrows],fun r row h=>by simp [hrows] at h⟩
   · simp only [upd_other _ _ _ e] at hb
     exact BlkOK.mono hs (by simp [upd_other _ _ _ e]) (by simp [upd_other _ _ _ e]) (fun hz hc=>hold _ (hr.nf k b hb hz hc).1) (hr.blk k b hb)
 · by_cases e1 : id = i
   · subst e1
     have e2 : id ≠ j:=hne
     simp only [upd_same,upd_other _ _ _ e2] at hj cj ⊢
     have:=(hr.nf j bj hj kj cj).1
     omega
   · simp only [upd_other _ _ _ e1] at hi ci ⊢
     by_cases e2 : id = j
     · subst e2
       simp only [upd_same]
       have:=(hr.nf i bi hi ki ci).1
       omega
     · simp only [upd_other _ _ _ e2] at hj cj ⊢
       exact hr.inj i j bi bj hi hj ki kj ci cj hne
 · by_cases e : id = k
   · subst e
     simp only [upd_same]
     exact ⟨by omega,fun hf=>by have:=hr.fb _ hf; omega⟩
   · simp only [upd_other _ _ _ e] at hb hc' ⊢
     have:=hr.nf k b hb hk' hc'
     exact ⟨by omega,this.2⟩
theorem HR.writeMap {E : Env} (hr : HR E) {id : Nat} {blk blk' : ABlk} {es : Array MapEntry} {clock : Nat} {w' : World} (hb : E.H id = some blk) (hk : blk.kind = 3) (hcp : 0 < E.cs id)
   (hsz' : w'.heap.size = E.w.heap.size ∧ w'.os = E.w.os ∧ w'.output = E.w.output ∧ w'.tape = E.w.tape) (hold : ∀ b,b ≠ E.φ id → w'.heap[b]? = E.w.heap[b]?) (hnew : w'.heap[E.φ id]? = some (.map es clock))
   (hk' : blk'.kind = 3) (hg : blk'.gen = blk.gen) (hs : blk'.size = blk.size) (he : blk'.elem = blk.elem) (hb1 : ∀ (i : Nat) (e : MapEntry),es[i]? = some e → e.born = i) (hb2 : clock = es.size) (hle : es.size = blk'.rows.length)
   (hc : ∀ (r : Nat) (row : List AV),blk'.rows[r]? = some row → ∃ (k v : AV) (e : MapEntry),row = [k,v] ∧ es[r]? = some e ∧ Rep E k e.key ∧ Rep E v e.val) :
   HR ⟨w',upd E.H id (some blk'),E.φ,E.cs,E.F⟩ ∧ Step E ⟨w',upd E.H id (some blk'),E.φ,E.cs,E.F⟩:=by
 have hsz:=hsz'.1
 have hkept : Kept E.w w':=Kept.write hsz' hold (by
   have:=hr.blk id blk hb
   unfold BlkOK at this
   simp only [hk] at this
   obtain ⟨_,es,clock,a2,_⟩:=this
   rw [a2]; trivial) (by rw [hnew]; trivial)
 have hst : Step E ⟨w',upd E.H id (some blk'),E.φ,E.cs,E.F⟩:=by
   refine ⟨by simp only; omega,fun b _ hn=>hold b (fun e=>hn id blk hb (by omega) hcp e.symm),rfl,fun k b hbk=>?_,fun k b' hbk hkk hck=>?_,hkept⟩
   · by_cases e : id = k
     · subst e
       rw [hb] at hbk; cases hbk
       exact ⟨blk',by simp [upd_same],by omega,fun _ _=>⟨.inl (by omega),hs,he,rfl,rfl⟩⟩
     · exact ⟨b,by simp [upd_other _ _ _ e,hbk],Nat.le_refl _,fun _ _=>⟨.inl rfl,rfl,rfl,rfl,rfl⟩⟩
   · left
     by_cases e : id = k
     · subst e; exact ⟨id,blk,hb,by omega,hck,rfl, .inl rfl⟩
     · exact ⟨k,b',by simpa [upd_other _ _ _ e] using hbk,hkk,hck,rfl, .inl rfl⟩
 refine ⟨⟨fun k b hbk=>?_,fun i j bi bj hi hj ki kj ci cj hne=>?_,fun k b hbk hkk hck=>?_,fun b hf=>by have:=hr.fb b hf; simp only; omega⟩,hst⟩
 · by_cases e : id = k
   · subst e
     simp only [upd_same,Option.some.injEq] at hbk
     subst hbk
     unfold BlkOK
     simp only [hk']
     refine ⟨hcp,es,clock,hnew,hb1,hb2,hle,fun r row h1=>?_⟩
     obtain ⟨k,v,e,q1,q2,q3,q4⟩:=hc r row h1
     exact ⟨k,v,e,q1,q2,Rep.mono hst _ _ q3,Rep.mono hst _ _ q4⟩
   · simp only [upd_other _ _ _ e] at hbk
     exact BlkOK.mono hst rfl rfl (fun hz hck=>hold _ (fun h=>hr.inj id k blk b hb hbk (by omega) hz hcp hck e h.symm)) (hr.blk k b hbk)
 · have hi' : ∃ b,E.H i = some b ∧ b.kind ≠ 0:=by
     by_cases e : id = i
     · subst e; exact ⟨blk,hb,by omega⟩
     · exact ⟨bi,by simpa [upd_other _ _ _ e] using hi,ki⟩
   have hj' : ∃ b,E.H j = some b ∧ b.kind ≠ 0:=by
     by_cases e : id = j
     · subst e; exact ⟨blk,hb,by omega⟩
     · exact ⟨bj,by simpa [upd_other _ _ _ e] using hj,kj⟩
   obtain ⟨b1,h1,k1⟩:=hi'
   obtain ⟨b2,h2,k2⟩:=hj'
   exact hr.inj i j b1 b2 h1 h2 k1 k2 ci cj hne
 · have hk2 : ∃ b,E.H k = some b ∧ b.kind ≠ 0:=by
     by_cases e : id = k
     · subst e; exact ⟨blk,hb,by omega⟩
     · exact ⟨b,by simpa [upd_other _ _ _ e] using hbk,hkk⟩
   obtain ⟨b1,h1,k1⟩:=hk2
   have:=hr.nf k b1 h1 k1 hck
   exact ⟨by simp only; omega,this.2⟩
def keyOf (P : Program) (mt : TypeId) : Option (TypeId × TypeId × TypeDesc) :=
 match P.underlying mt with
 | some (.map k e)=>match P.underlying k with
   | some d=>some (k,e,d)
   | none=>none
 | _=>none
def keyEqA (d : TypeDesc) (x y : AV) : Option Bool :=
 match d,x,y with
 | .int _, .int k a, .int k' b=>if k = k' then some (decide (a = b)) else none
 | .string, .str a, .str b=>some (decide (a = b))
 | .bool, .bool a, .bool b=>some (decide (a = b))
 | _,_,_=>none
def keyOK (d : TypeDesc) (x : AV) : Bool :=
 match d,x with
 | .int k, .int k' _=>decide (k = k')
 | .string, .str _=>true
 | .bool, .bool _=>true
 | _,_=>false
def findA (d : TypeDesc) (x : AV) : List (List AV) → Nat → Option (Option (Nat × AV))
 | [],_=>some none
 | row :: r,i=>match row with
   | [k,v]=>match keyEqA d x k with
     | some true=>some (some (i,v))
     | some false=>findA d x r (i + 1)
     | none=>none
   | _=>none
def isIntA : AV → Bool
 | .int _ _=>true
 | _=>false
def arrKey (P : Program) (n : Nat) (el : TypeId) (x : AV) : Bool :=
 match P.underlying el,aggT P el,szOf P el,x with
 | some (.int _),some false,some 1, .agg cs=>decide (cs.length = n) && cs.all isIntA
 | _,_,_,_=>false
def keyInts : List AV → Option (List (IntKind × Int))
 | []=>some []
 | .int k a :: r=>match keyInts r with
   | some l=>some ((k,a) :: l)
   | none=>none
 | _=>none
def keyIntsV : AV → Option (List (IntKind × Int))
 | .agg cs=>keyInts cs
 | _=>none
def keyEqX (P : Program) (k : TypeId) (x y : AV) : Option Bool :=
 match eqV P 9 k x y,keyIntsV x,keyIntsV y with
 | some b,some p,some q=>if b = decide (p = q) then some b else none
 | _,_,_=>none
def findK (P : Program) (k : TypeId) (x : AV) : List (List AV) → Nat → Option (Option (Nat × AV))
 | [],_=>some none
 | row :: r,i=>match row with
   | [y,v]=>match keyEqX P k x y with
     | some true=>some (some (i,v))
     | some false=>findK P k x r (i + 1)
     | none=>none
   | _=>none
def findX (P : Program) (k : TypeId) (d : TypeDesc) (x : AV) (rows : List (List AV)) : Option (Option (Nat × AV)) :=
 match d with
 | .array _ _=>findK P k x rows 0
 | d=>findA d x rows 0
def keyOKX (P : Program) (d : TypeDesc) (x : AV) : Bool :=
 match d with
 | .array n el=>arrKey P n el x
 | d=>keyOK d x
def makeMapA (dst : Nat) (r : Option AV) : AP AV :=
 match r with
 | none => .get (newId dst) fun old => .put (newId dst) { gen:=old.gen + 1,kind:=3,elem:=0,size:=0,inl:=false,rows:=[] } (.ret (.amap (newId dst) (old.gen + 1)))
 | some _ => .fail
def foundA (P : Program) (e : TypeId) (ok : Bool) (x : Option (Option (Nat × AV))) : AP AV :=
 match x with
 | some (some (_,v)) => .ret (if ok then .tup [v, .bool true] else v)
 | some none=>match zeroA P e with
   | some z => .ret (if ok then .tup [z, .bool false] else z)
   | none => .fail
 | none => .fail
def lookupA (P : Program) (mt : TypeId) (m x : AV) (ok : Bool) : AP AV :=
 match keyOf P mt with
 | some (k,e,d)=>if keyOKX P d x then match m with
   | .nilm=>foundA P e ok (some none)
   | .amap id g => .get id fun b=>if b.gen = g ∧ b.kind = 3 then foundA P e ok (findX P k d x b.rows) else .fail
   | _ => .fail
   else .fail
 | none => .fail
def mapUpdateA (P : Program) (mt : TypeId) (m x v : AV) : AP AV :=
 match keyOf P mt with
 | some (k,_,d)=>if keyOKX P d x then match m with
   | .amap id g => .get id fun b=>if b.gen = g ∧ b.kind = 3 then match findX P k d x b.rows with
     | some (some (i,_)) => .put id { b with rows:=b.rows.set i [x,v] } (.ret .any)
     | some none => .put id { b with rows:=b.rows ++ [[x,v]] } (.ret .any)
     | none => .fail
     else .fail
   | _ => .fail
   else .fail
 | none => .fail
def mapEntryA (P : Program) (mt : TypeId) (m x : AV) : AP AV :=
 match keyOf P mt with
 | some (k,e,d)=>if keyOKX P d x then match m with
   | .amap id g => .get id fun b=>if b.gen = g ∧ b.kind = 3 then match findX P k d x b.rows with
     | some (some (i,v)) => .put id { b with rows:=b.rows.set i [x,v] } (.ret (.tup [v, .int .i64 i]))
     | some none=>match zeroA P e with
       | some z => .put id { b with rows:=b.rows ++ [[x,z]] } (.ret (.tup [z, .int .i64 b.rows.length]))
       | none => .fail
     | none => .fail
     else .fail
   | _ => .fail
   else .fail
 | none => .fail
def entryStoreA (m s v : AV) : AP AV :=
 match m,s with
 | .amap id g, .int .i64 n => .get id fun b=>if b.gen = g ∧ b.kind = 3 ∧ 0 ≤ n then match b.rows[n.toNat]? with
     | some [x,_] => .put id { b with rows:=b.rows.set n.toNat [x,v] } (.ret .any)
     | _ => .fail
     else .fail
 | _,_ => .fail
theorem makeMap_snd {P : Program} {E : Env} {H : NL ABlk} (hH : E.H = lk H) (hr : HR E) {dst : Nat} {t : TypeId} : Snd P E H (makeMapA dst none) (Instr.makeMap t none) := by
 unfold makeMapA
 refine Snd.get' ?_
 have hrun : (Instr.makeMap t none).run P E.w = .ok (.map (some E.w.heap.size)) (E.w.alloc (.map #[] 0)):=by
   simp [Instr.makeMap,Result.andThen]
 obtain ⟨h1,h2⟩:=hr.newMap (id:=newId dst) (blk:={ gen:=((lk H (newId dst)).getD {}).gen + 1,kind:=3,elem:=0,size:=0,inl:=false,rows:=[] }) (w':=E.w.alloc (.map #[] 0))
   ⟨by simp,rfl,rfl,rfl⟩ (fun b hb=>heap_alloc_old _ _ _ hb) (heap_alloc_new _ _) rfl (fun old ho=>by rw [hH] at ho; simp [ho]) rfl
 refine Snd.put_ret _ _ hrun ?_ h1 h2 ?_
 · simp only [hH]
 · simp only [Rep]
   exact ⟨{ gen:=((lk H (newId dst)).getD {}).gen + 1,kind:=3,elem:=0,size:=0,inl:=false,rows:=[] },_,upd_same _ _ _,Nat.le_refl _,rfl,fun _=>⟨rfl,by simp [upd_same]⟩⟩
def entriesR (E : Env) (rows : List (List AV)) (es : List MapEntry) : Prop :=
 es.length = rows.length ∧ ∀ (r : Nat) (row : List AV),rows[r]? = some row → ∃ (k v : AV) (e : MapEntry),row = [k,v] ∧ es[r]? = some e ∧ Rep E k e.key ∧ Rep E v e.val
theorem keyOK_is {d : TypeDesc} {E : Env} {x : AV} {v : Value} (h : keyOK d x = true) (hx : Rep E x v) : MapKept.IsKey d v := by
 cases d <;> cases x <;> simp only [keyOK,decide_eq_true_eq] at h <;> try (cases h)
 all_goals
   simp only [Rep] at hx
   subst hx
   simp [MapKept.IsKey]
theorem keyEqA_now {d : TypeDesc} {E : Env} {x y : AV} {v u : Value} {b : Bool} (hx : Rep E x v) (hy : Rep E y u) (h : keyEqA d x y = some b) : Instr.sameNow d v u = some b ∧ (b = true → u = v) := by
 unfold keyEqA at h
 split at h
 · rename_i k a k' a'
   simp only [Rep] at hx hy
   subst hx
   subst hy
   split at h
   · rename_i e
     subst e
     simp only [Option.some.injEq] at h
     subst h
     refine ⟨?_,fun hb=>?_⟩
     · simp only [Instr.sameNow,if_true]
       rfl
     · simp only [decide_eq_true_eq] at hb
       rw [hb]
   · cases h
 · simp only [Rep] at hx hy
   subst hx
   subst hy
   simp only [Option.some.injEq] at h
   subst h
   refine ⟨?_,fun hb=>?_⟩
   · simp only [Instr.sameNow]
     congr 1
     rw [Bool.eq_iff_iff]
     simp [MapKept.bytes_beq]
   · simp only [decide_eq_true_eq] at hb
     rw [hb]
 · simp only [Rep] at hx hy
   subst hx
   subst hy
   simp only [Option.some.injEq] at h
   subst h
   refine ⟨?_,fun hb=>?_⟩
   · simp only [Instr.sameNow]
     congr 1
   · simp only [decide_eq_true_eq] at hb
     rw [hb]
 · cases h
theorem findA_now {d : TypeDesc} {E : Env} {x : AV} {xv : Value} (hx : Rep E x xv) : ∀ (rows : List (List AV)) (es : List MapEntry) (i : Nat),entriesR E rows es → ∀ r,findA d x rows i = some r →
   match r with
   | none=>Instr.findNow d xv es i = some none
   | some (j,v) => ∃ e,i ≤ j ∧ j - i < rows.length ∧ es[j - i]? = some e ∧ Instr.findNow d xv es i = some (some (j,e.val)) ∧ Rep E v e.val ∧ e.key = xv
 | [],es,i,h,r,hf=>by
   simp only [findA,Option.some.injEq] at hf
   subst hf
   have:=h.1
   simp only [List.length_nil,List.length_eq_zero_iff] at this
   subst this
   rfl
 | row :: rows,es,i,h,r,hf=>by
   obtain ⟨h1,h2⟩:=h
   obtain ⟨k,v,e,rfl,q2,q3,q4⟩:=h2 0 row (by simp)
   match es,h1,q2,h2 with
   | e0 :: es,h1,q2,h2 =>
     simp only [List.getElem?_cons_zero,Option.some.injEq] at q2
     subst q2
     simp only [findA] at hf
     split at hf
     · rename_i hk
       simp only [Option.some.injEq] at hf
       subst hf
       obtain ⟨s1,s2⟩:=keyEqA_now hx q3 hk
       exact ⟨e0,Nat.le_refl _,by simp,by simp,by simp [Instr.findNow,s1],q4,s2 rfl⟩
     · rename_i hk
       obtain ⟨s1,_⟩:=keyEqA_now hx q3 hk
       have ih:=findA_now hx rows es (i + 1) ⟨by simpa using h1,fun r row hr=>by simpa using h2 (r + 1) row (by simpa using hr)⟩ r hf
       cases r with
       | none=>simp only at ih ⊢; simp [Instr.findNow,s1,ih]
       | some p =>
         obtain ⟨j,v'⟩:=p
         simp only at ih ⊢
         obtain ⟨e',a1,a2,a3,a4,a5,a6⟩:=ih
         refine ⟨e',by omega,by simp only [List.length_cons]; omega, ?_,by simp [Instr.findNow,s1,a4],a5,a6⟩
         rw [show j - i = (j - (i + 1)) + 1 from by omega,List.getElem?_cons_succ]
         exact a3
     · cases hf
theorem keyOf_some {P : Program} {mt k e : TypeId} {d : TypeDesc} (h : keyOf P mt = some (k,e,d)) : P.underlying mt = some (.map k e) ∧ P.underlying k = some d := by
 unfold keyOf at h
 split at h
 · rename_i k' e' hu
   split at h
   · rename_i d' hd
     simp only [Option.some.injEq,Prod.mk.injEq] at h
     obtain ⟨rfl,rfl,rfl⟩:=h
     exact ⟨hu,hd⟩
   · cases h
 · cases h
theorem HR.map {E : Env} (h : HR E) {id : Nat} {blk : ABlk} (hb : E.H id = some blk) (hk : blk.kind = 3) :
   0 < E.cs id ∧ ∃ es clock,E.w.heap[E.φ id]? = some (.map es clock) ∧ (∀ (i : Nat) (e : MapEntry),es[i]? = some e → e.born = i) ∧ clock = es.size ∧ es.size = blk.rows.length ∧ entriesR E blk.rows es.toList:=by
 have:=h.blk id blk hb
 unfold BlkOK at this
 simp only [hk] at this
 obtain ⟨a1,es,clock,a2,a3,a4,a5,a6⟩:=this
 exact ⟨a1,es,clock,a2,a3,a4,a5,by simpa using a5,fun r row hr=>by
   obtain ⟨k,v,e,q1,q2,q3,q4⟩:=a6 r row hr
   exact ⟨k,v,e,q1,by simpa using q2,q3,q4⟩⟩
theorem keyInts_rep {E : Env} : ∀ {xs ys : List AV} {vs us : List Value} {p : List (IntKind × Int)},keyInts xs = some p → keyInts ys = some p → RepL E xs vs → RepL E ys us → vs = us
 | [],ys,vs,us,p,h1,h2,hx,hy=>by
   simp only [keyInts,Option.some.injEq] at h1
   subst h1
   cases ys with
   | nil =>
     simp only [RepL] at hx hy
     rw [hx,hy]
   | cons y r=>cases y <;> simp [keyInts] at h2; split at h2 <;> simp at h2
 | x :: xs,ys,vs,us,p,h1,h2,hx,hy=>by
   cases x <;> simp only [keyInts] at h1 <;> try (cases h1)
   rename_i k a
   cases hq : keyInts xs with
   | none=>simp [hq] at h1
   | some l =>
     simp only [hq,Option.some.injEq] at h1
     subst h1
     cases ys with
     | nil=>simp [keyInts] at h2
     | cons y r =>
       cases y <;> simp only [keyInts] at h2 <;> try (cases h2)
       rename_i k' a'
       cases hq2 : keyInts r with
       | none=>simp [hq2] at h2
       | some l2 =>
         simp only [hq2,Option.some.injEq,List.cons.injEq,Prod.mk.injEq] at h2
         obtain ⟨⟨rfl,rfl⟩,rfl⟩:=h2
         simp only [RepL,Rep] at hx hy
         obtain ⟨v,vs',rfl,rfl,hx⟩:=hx
         obtain ⟨u,us',rfl,rfl,hy⟩:=hy
         rw [keyInts_rep hq hq2 hx hy]
theorem keyEqX_run {P : Program} {E : Env} {k : TypeId} {x y : AV} {v u : Value} {b : Bool} (hx : Rep E x v) (hy : Rep E y u) (h : keyEqX P k x y = some b) : (∀ w,(Op.equal k v u).run P w = .ok b w) ∧ (b = true → u = v) := by
 unfold keyEqX at h
 split at h
 · rename_i b' p q he hp hq
   split at h
   · rename_i hb
     simp only [Option.some.injEq] at h
     subst h
     refine ⟨fun w=>eqV_run (d:=9) _ (by decide) k x y v u b' he hx hy w,fun ht=>?_⟩
     rw [ht] at hb
     have hpq : p = q:=of_decide_eq_true hb.symm
     subst hpq
     cases x <;> simp only [keyIntsV] at hp <;> try (cases hp)
     cases y <;> simp only [keyIntsV] at hq <;> try (cases hq)
     simp only [Rep] at hx hy
     obtain ⟨vs,rfl,hvx⟩:=hx
     obtain ⟨us,rfl,hvy⟩:=hy
     have:=keyInts_rep hq hp hvy hvx
     rw [Array.toList_inj.1 this]
   · cases h
 · cases h
theorem findK_run {P : Program} {E : Env} {k : TypeId} {x : AV} {xv : Value} (hx : Rep E x xv) : ∀ (rows : List (List AV)) (es : List MapEntry) (i : Nat),entriesR E rows es → ∀ r,findK P k x rows i = some r →
   match r with
   | none => ∀ w,(Instr.findAsking k xv es i).run P w = .ok none w
   | some (j,v) => ∃ e,i ≤ j ∧ j - i < rows.length ∧ es[j - i]? = some e ∧ (∀ w,(Instr.findAsking k xv es i).run P w = .ok (some (j,e.val)) w) ∧ Rep E v e.val ∧ e.key = xv
 | [],es,i,h,r,hf=>by
   simp only [findK,Option.some.injEq] at hf
   subst hf
   have:=h.1
   simp only [List.length_nil,List.length_eq_zero_iff] at this
   subst this
   intro w
   simp [Instr.findAsking]
 | row :: rows,es,i,h,r,hf=>by
   obtain ⟨h1,h2⟩:=h
   obtain ⟨y,v,e,rfl,q2,q3,q4⟩:=h2 0 row (by simp)
   match es,h1,q2,h2 with
   | e0 :: es,h1,q2,h2 =>
     simp only [List.getElem?_cons_zero,Option.some.injEq] at q2
     subst q2
     simp only [findK] at hf
     split at hf
     · rename_i hk
       simp only [Option.some.injEq] at hf
       subst hf
       obtain ⟨s1,s2⟩:=keyEqX_run hx q3 hk
       exact ⟨e0,Nat.le_refl _,by simp,by simp,fun w=>by simp [Instr.findAsking,s1 w],q4,s2 rfl⟩
     · rename_i hk
       obtain ⟨s1,_⟩:=keyEqX_run hx q3 hk
       have ih:=findK_run hx rows es (i + 1) ⟨by simpa using h1,fun r row hr=>by simpa using h2 (r + 1) row (by simpa using hr)⟩ r hf
       cases r with
       | none =>
         simp only at ih ⊢
         intro w
         simp [Instr.findAsking,s1 w,ih w]
       | some p =>
         obtain ⟨j,v'⟩:=p
         simp only at ih ⊢
         obtain ⟨e',a1,a2,a3,a4,a5,a6⟩:=ih
         refine ⟨e',by omega,by simp only [List.length_cons]; omega, ?_,fun w=>by simp [Instr.findAsking,s1 w,a4 w],a5,a6⟩
         rw [show j - i = (j - (i + 1)) + 1 from by omega,List.getElem?_cons_succ]
         exact a3
     · cases hf
theorem run_checkKey_arr {P : Program} {kt el : TypeId} {n : Nat} {kk : IntKind} {cs : Array Value} (hu : P.underlying kt = some (.array n el)) (he : P.underlying el = some (.int kk)) (hag : aggT P el = some false) (hsz : szOf P el = some 1)
   (hcs : ∀ i,i < n → ∃ v,cs[i]? = some v) (em : Bool) (m : Nat) (w : World) : (Instr.checkKey em (m + 2) kt (.agg cs)).run P w = .ok () w:=by
 rw [Instr.checkKey]
 simp only [Sem.run_bind,run_underlying hu,Result.andThen_ok]
 simp only [Std.Legacy.Range.forIn_eq_forIn_range',Std.Legacy.Range.size,Nat.sub_zero,Nat.add_one_sub_one,Nat.div_one]
 have each : ∀ i ∈ List.range' 0 n, ∃ v,cs[i]? = some v:=fun i hi=>hcs i (by simpa using hi)
 generalize List.range' 0 n = is at each
 induction is with
 | nil=>simp
 | cons j is ih =>
   obtain ⟨v,hv⟩:=each j (by simp)
   have p1 : (part el cs (j * 1)).run P w = .ok v w:=by simp [part,run_isAgg' hag,hv]
   have p2 : (Instr.checkKey em (m + 1) el v).run P w = .ok () w:=by
     unfold Instr.checkKey
     simp [run_underlying he]
   simp only [List.forIn_cons,Sem.run_bind,run_sizeOf' hsz,Result.andThen_ok,p1,p2,Sem.run_pure]
   exact ih (fun y hy=>each y (by simp [hy]))
theorem sameBits_ints {E : Env} {n : Nat} : ∀ {xs : List AV} {vs : List Value},xs.all isIntA = true → RepL E xs vs → (vs.zip vs).all (fun (x,y) => Instr.sameBits n x y) = true
 | [],vs,_,hx=>by
   simp only [RepL] at hx
   subst hx
   rfl
 | x :: xs,vs,h,hx=>by
   rw [List.all_cons,Bool.and_eq_true] at h
   obtain ⟨hi,h⟩:=h
   cases x with
   | int k a =>
     simp only [RepL,Rep] at hx
     obtain ⟨v,vs',rfl,rfl,hx⟩:=hx
     rw [List.zip_cons_cons,List.all_cons,sameBits_ints h hx]
     cases n <;> simp [Instr.sameBits]
   | _=>cases hi
structure KeyX (P : Program) (E : Env) (k : TypeId) (d : TypeDesc) (x : AV) (xv : Value) : Prop where
 chk : ∀ em w,(Instr.checkKey em 10000 k xv).run P w = .ok () w
 stay : ∀ w,(Instr.keyThatStays xv xv).run P w = .ok xv w
 fnd : ∀ (rows : List (List AV)) (es : List MapEntry),entriesR E rows es → ∀ r,findX P k d x rows = some r →
   match r with
   | none => ∀ w,(Instr.findKey k xv es).run P w = .ok none w
   | some (j,v) => ∃ e,j < rows.length ∧ es[j]? = some e ∧ (∀ w,(Instr.findKey k xv es).run P w = .ok (some (j,e.val)) w) ∧ Rep E v e.val ∧ e.key = xv
theorem keyX_plain {P : Program} {E : Env} {k : TypeId} {d : TypeDesc} {x : AV} {xv : Value} (hd : P.underlying k = some d) (hok : keyOK d x = true) (hx : Rep E x xv) (hf : ∀ rows,findX P k d x rows = findA d x rows 0) : KeyX P E k d x xv := by
 have hik:=keyOK_is hok hx
 refine ⟨fun em w=>MapKept.run_checkKey hd hik em 9999,fun w=>MapKept.run_keyThatStays hik,fun rows es he r h=>?_⟩
 rw [hf] at h
 have:=findA_now hx rows es 0 he r h
 cases r with
 | none =>
   simp only at this ⊢
   exact fun w=>MapKept.run_findKey hd this
 | some p =>
   obtain ⟨j,v⟩:=p
   simp only at this ⊢
   obtain ⟨e,a1,a2,a3,a4,a5,a6⟩:=this
   exact ⟨e,a2,a3,fun w=>MapKept.run_findKey hd a4,a5,a6⟩
theorem keyX_arr {P : Program} {E : Env} {k el : TypeId} {n : Nat} {x : AV} {xv : Value} (hd : P.underlying k = some (.array n el)) (hok : arrKey P n el x = true) (hx : Rep E x xv) : KeyX P E k (.array n el) x xv := by
 unfold arrKey at hok
 split at hok
 · rename_i kk cs he hag hsz
   simp only [Bool.and_eq_true,decide_eq_true_eq] at hok
   obtain ⟨hlen,hall⟩:=hok
   have hx':=hx
   simp only [Rep] at hx'
   obtain ⟨vs,rfl,hv⟩:=hx'
   have hl : vs.size = n:=by rw [← hlen, ← hv.length,Array.length_toList]
   refine ⟨fun em w=>run_checkKey_arr hd he hag hsz (fun i hi=>⟨vs[i]'(by omega),by simp [show i < vs.size by omega]⟩) em 9998 w,fun w=>?_,fun rows es hes r h=>?_⟩
   · have hs : Instr.sameBits 10000 (.agg vs) (.agg vs) = true:=by
       have:=sameBits_ints (n:=9999) hall hv
       simp only [Instr.sameBits,this,beq_self_eq_true,Bool.and_self]
     simp [Instr.keyThatStays,hs]
   · have:=findK_run hx rows es 0 hes r h
     have hfk : ∀ w,(Instr.findKey k (.agg vs) es).run P w = (Instr.findAsking k (.agg vs) es).run P w:=fun w=>run_findKey_eq w (by simp [hd]) _ es
     cases r with
     | none =>
       simp only at this ⊢
       exact fun w=>by rw [hfk]; exact this w
     | some p =>
       obtain ⟨j,v⟩:=p
       simp only at this ⊢
       obtain ⟨e,a1,a2,a3,a4,a5,a6⟩:=this
       exact ⟨e,a2,a3,fun w=>by rw [hfk]; exact a4 w,a5,a6⟩
 · cases hok
theorem keyX_of {P : Program} {E : Env} {k : TypeId} {d : TypeDesc} {x : AV} {xv : Value} (hd : P.underlying k = some d) (hok : keyOKX P d x = true) (hx : Rep E x xv) : KeyX P E k d x xv := by
 cases d with
 | array n el=>exact keyX_arr hd hok hx
 | _=>exact keyX_plain hd hok hx fun _=>rfl
theorem heapId_born {es : Array MapEntry} (h : ∀ (i : Nat) (e : MapEntry),es[i]? = some e → e.born = i) {j : Nat} {e : MapEntry} (hj : es[j]? = some e) : es.findIdx? (fun e => (e.born : Int) == (j : Int)) = some j := by
 have hlt : j < es.size:=(Array.getElem?_eq_some_iff.1 hj).1
 rw [Array.findIdx?_eq_some_iff_getElem]
 refine ⟨hlt, ?_,fun i hi=>?_⟩
 · have:=h j es[j] (by simp)
   simp [this]
 · have:=h i es[i] (by simp)
   simp [this]
   omega
theorem HR.setEntry {E : Env} (hr : HR E) {id : Nat} {blk : ABlk} {es : Array MapEntry} {clock : Nat} {j : Nat} {en : MapEntry} {x v : AV} {f : MapEntry → MapEntry} (hb : E.H id = some blk) (hk : blk.kind = 3) (hcp : 0 < E.cs id) (c2 : E.w.heap[E.φ id]? = some (.map es clock))
   (c3 : ∀ (i : Nat) (e : MapEntry),es[i]? = some e → e.born = i) (c4 : clock = es.size) (c5 : es.size = blk.rows.length) (c6 : entriesR E blk.rows es.toList) (hj : es[j]? = some en) (hf : (f en).born = en.born) (hx : Rep E x (f en).key) (hv : Rep E v (f en).val) :
   HR ⟨{ E.w with heap:=E.w.heap.setIfInBounds (E.φ id) (.map (es.modify j f) clock) },upd E.H id (some { blk with rows:=blk.rows.set j [x,v] }),E.φ,E.cs,E.F⟩ ∧ Step E ⟨{ E.w with heap:=E.w.heap.setIfInBounds (E.φ id) (.map (es.modify j f) clock) },upd E.H id (some { blk with rows:=blk.rows.set j [x,v] }),E.φ,E.cs,E.F⟩:=by
 have hset:=MapKept.heap_set c2 (o' := .map (es.modify j f) clock)
 refine hr.writeMap (blk':={ blk with rows:=blk.rows.set j [x,v] }) hb hk hcp ⟨by simp,rfl,rfl,rfl⟩ (fun b hb=>hset.2 b hb) hset.1 hk rfl rfl rfl (fun i e he=>?_) (by simpa using c4) (by simp [c5]) (fun r row hrow=>?_)
 · rw [Array.getElem?_modify] at he
   split at he
   · rename_i e1
     subst e1
     rw [hj] at he
     simp only [Option.map_some,Option.some.injEq] at he
     rw [← he,hf]
     exact c3 _ _ hj
   · exact c3 i e he
 · rw [List.getElem?_set] at hrow
   split at hrow
   · rename_i e1
     subst e1
     split at hrow
     · simp only [Option.some.injEq] at hrow
       exact ⟨x,v,f en,hrow.symm,by simp [Array.getElem?_modify,hj],hx,hv⟩
     · cases hrow
   · rename_i e1
     obtain ⟨k',v',e',q1,q2,q3,q4⟩:=c6.2 r row hrow
     exact ⟨k',v',e',q1,by simp [Array.getElem?_modify,e1]; simpa using q2,q3,q4⟩
theorem HR.pushEntry {E : Env} (hr : HR E) {id : Nat} {blk : ABlk} {es : Array MapEntry} {clock : Nat} {x v : AV} {xv vv : Value} (hb : E.H id = some blk) (hk : blk.kind = 3) (hcp : 0 < E.cs id) (c2 : E.w.heap[E.φ id]? = some (.map es clock))
   (c3 : ∀ (i : Nat) (e : MapEntry),es[i]? = some e → e.born = i) (c4 : clock = es.size) (c5 : es.size = blk.rows.length) (c6 : entriesR E blk.rows es.toList) (hx : Rep E x xv) (hv : Rep E v vv) :
   HR ⟨{ E.w with heap:=E.w.heap.setIfInBounds (E.φ id) (.map (es.push { key:=xv,val:=vv,born:=clock }) (clock + 1)) },upd E.H id (some { blk with rows:=blk.rows ++ [[x,v]] }),E.φ,E.cs,E.F⟩ ∧ Step E ⟨{ E.w with heap:=E.w.heap.setIfInBounds (E.φ id) (.map (es.push { key:=xv,val:=vv,born:=clock }) (clock + 1)) },upd E.H id (some { blk with rows:=blk.rows ++ [[x,v]] }),E.φ,E.cs,E.F⟩:=by
 have hset:=MapKept.heap_set c2 (o' := .map (es.push { key:=xv,val:=vv,born:=clock }) (clock + 1))
 refine hr.writeMap (blk':={ blk with rows:=blk.rows ++ [[x,v]] }) hb hk hcp ⟨by simp,rfl,rfl,rfl⟩ (fun b hb=>hset.2 b hb) hset.1 hk rfl rfl rfl (fun i e he=>?_) (by simp [c4]) (by simp [c5]) (fun r row hrow=>?_)
 · rw [Array.getElem?_push] at he
   split at he
   · rename_i e1
     simp only [Option.some.injEq] at he
     rw [← he,e1,c4]
   · exact c3 i e he
 · by_cases hlt : r < blk.rows.length
   · rw [List.getElem?_append_left hlt] at hrow
     obtain ⟨k',v',e',q1,q2,q3,q4⟩:=c6.2 r row hrow
     refine ⟨k',v',e',q1, ?_,q3,q4⟩
     rw [Array.getElem?_push,if_neg (by omega)]
     simpa using q2
   · rw [List.getElem?_append_right (by omega)] at hrow
     have hr0 : r = blk.rows.length:=by
       have:=(List.getElem?_eq_some_iff.1 hrow).1
       simp only [List.length_cons,List.length_nil] at this
       omega
     subst hr0
     simp only [Nat.sub_self,List.getElem?_cons_zero,Option.some.injEq] at hrow
     exact ⟨x,v, { key:=xv,val:=vv,born:=clock },hrow.symm,by rw [Array.getElem?_push,if_pos (by omega)],hx,hv⟩
theorem found_snd {P : Program} {E : Env} {H : NL ABlk} (hH : E.H = lk H) (hr : HR E) {e : TypeId} {ok : Bool} {r : Option (Option (Nat × AV))} {c : Sem Value}
   (hn : r = some none → ∀ z,(∀ w,(zeroValue e).run P w = .ok z w) → c.run P E.w = .ok (if ok then .tuple #[z, .bool false] else z) E.w)
   (hs : ∀ j v,r = some (some (j,v)) → ∃ u,Rep E v u ∧ c.run P E.w = .ok (if ok then .tuple #[u, .bool true] else u) E.w) : Snd P E H (foundA P e ok r) c:=by
 have fin : ∀ (x : AV) (u : Value) (b : Bool),Rep E x u → c.run P E.w = .ok (if ok then .tuple #[u, .bool b] else u) E.w → Snd P E H (.ret (if ok then .tup [x, .bool b] else x)) c:=fun x u b hx hrun=>by
   refine Snd.ret hH hr hrun ?_
   cases ok with
   | true =>
     simp only [if_true,Rep]
     exact ⟨_,rfl,by simp only [RepL,Rep]; exact ⟨u,_,rfl,hx,_,_,rfl,rfl,rfl⟩⟩
   | false=>exact hx
 unfold foundA
 split
 · rename_i j v
   obtain ⟨u,h1,h2⟩:=hs j v rfl
   exact fin v u true h1 h2
 · split
   · rename_i z hz
     obtain ⟨u,h1,h2⟩:=zeroA_run hz
     exact fin z u false (h2 E) (hn rfl u h1)
   · exact Snd.fail
 · exact Snd.fail
theorem lookup_snd {P : Program} {E : Env} {H : NL ABlk} (hH : E.H = lk H) (hr : HR E) {t : TypeId} {m x : AV} {mv xv : Value} {ok : Bool} (hm : Rep E m mv) (hx : Rep E x xv) :
   Snd P E H (lookupA P t m x ok) (Instr.lookup t mv xv ok):=by
 unfold lookupA
 split
 · rename_i k e d hk
   obtain ⟨hu,hd⟩:=keyOf_some hk
   split
   · rename_i hok
     have hik:=keyX_of hd hok hx
     split
     · simp only [Rep] at hm
       subst hm
       refine found_snd hH hr (fun _ z hz=>?_) (fun j v h=>by cases h)
       have hf : (Instr.findKey k xv ([] : List MapEntry)).run P E.w = .ok none E.w:=MapKept.run_findKey hd rfl
       cases ok <;> simp [Instr.lookup,run_underlying hu,hik.chk,hf,hz,Result.andThen]
     · rename_i id g
       simp only [Rep] at hm
       obtain ⟨blk,r,hb,hle,rfl,hg⟩:=hm
       rw [hH] at hb
       refine Snd.get hb ?_
       split
       · rename_i hc
         obtain ⟨_,rfl⟩:=hg hc.1
         obtain ⟨c1,es,clock,c2,c3,c4,c5,c6⟩:=hr.map (by rw [hH]; exact hb) hc.2
         refine found_snd hH hr (fun hn z hz=>?_) (fun j v h=>?_)
         · have hf:=hik.fnd _ _ c6 none hn E.w
           cases ok <;> simp [Instr.lookup,run_underlying hu,MapKept.run_getObj_map c2,hik.chk,hf,hz,Result.andThen]
         · obtain ⟨en,a2,a3,a4,a5,a6⟩:=hik.fnd _ _ c6 _ h
           have hf:=a4 E.w
           refine ⟨en.val,a5, ?_⟩
           cases ok <;> simp [Instr.lookup,run_underlying hu,MapKept.run_getObj_map c2,hik.chk,hf,Result.andThen]
       · exact Snd.fail
     · exact Snd.fail
   · exact Snd.fail
 · exact Snd.fail
theorem mapUpdate_snd {P : Program} {E : Env} {H : NL ABlk} (hH : E.H = lk H) (hr : HR E) {t : TypeId} {m x v : AV} {mv xv vv : Value} (hm : Rep E m mv) (hx : Rep E x xv) (hv : Rep E v vv) :
   Snd P E H (mapUpdateA P t m x v) (do Instr.mapUpdate t mv xv vv; pure undef):=by
 unfold mapUpdateA
 split
 · rename_i k e d hk
   obtain ⟨hu,hd⟩:=keyOf_some hk
   split
   · rename_i hok
     have hik:=keyX_of hd hok hx
     split
     · rename_i id g
       simp only [Rep] at hm
       obtain ⟨blk,r,hb,hle,rfl,hg⟩:=hm
       have hbE:=hb
       rw [hH] at hb
       refine Snd.get hb ?_
       split
       · rename_i hc
         obtain ⟨_,rfl⟩:=hg hc.1
         obtain ⟨c1,es,clock,c2,c3,c4,c5,c6⟩:=hr.map hbE hc.2
         split
         · rename_i j v0 hfind
           obtain ⟨en,a2,a3,a4,a5,a6⟩:=hik.fnd _ _ c6 _ hfind
           have hj : es[j]? = some en:=by simpa using a3
           have hrun : (do Instr.mapUpdate t (.map (some (E.φ id))) xv vv; pure undef : Sem Value).run P E.w = .ok undef { E.w with heap:=E.w.heap.setIfInBounds (E.φ id) (.map (es.modify j fun e=>{ e with key:=xv,val:=vv }) clock) }:=by
             simp [Instr.mapUpdate,run_underlying hu,MapKept.run_getObj_map c2,hik.chk,a4 E.w,hj,a6,hik.stay,MapKept.run_setObj_map _ c2,Result.andThen]
           obtain ⟨h1,h2⟩:=hr.setEntry (x:=x) (v:=v) (f:=fun e=>{ e with key:=xv,val:=vv }) hbE hc.2 c1 c2 c3 c4 c5 c6 hj rfl hx hv
           exact Snd.put_ret _ _ hrun (by simp only [hH]) h1 h2 trivial
         · rename_i hfind
           have hf:=hik.fnd _ _ c6 none hfind E.w
           have hrun : (do Instr.mapUpdate t (.map (some (E.φ id))) xv vv; pure undef : Sem Value).run P E.w = .ok undef { E.w with heap:=E.w.heap.setIfInBounds (E.φ id) (.map (es.push { key:=xv,val:=vv,born:=clock }) (clock + 1)) }:=by
             simp [Instr.mapUpdate,run_underlying hu,MapKept.run_getObj_map c2,hik.chk,hf,MapKept.run_setObj_map _ c2,Result.andThen]
           obtain ⟨h1,h2⟩:=hr.pushEntry hbE hc.2 c1 c2 c3 c4 c5 c6 hx hv
           exact Snd.put_ret _ _ hrun (by simp only [hH]) h1 h2 trivial
         · exact Snd.fail
       · exact Snd.fail
     · exact Snd.fail
   · exact Snd.fail
 · exact Snd.fail
theorem mapEntry_snd {P : Program} {E : Env} {H : NL ABlk} (hH : E.H = lk H) (hr : HR E) {t : TypeId} {m x : AV} {mv xv : Value} (hm : Rep E m mv) (hx : Rep E x xv) :
   Snd P E H (mapEntryA P t m x) (Instr.mapEntry t mv xv):=by
 unfold mapEntryA
 split
 · rename_i k e d hk
   obtain ⟨hu,hd⟩:=keyOf_some hk
   split
   · rename_i hok
     have hik:=keyX_of hd hok hx
     split
     · rename_i id g
       simp only [Rep] at hm
       obtain ⟨blk,r,hb,hle,rfl,hg⟩:=hm
       have hbE:=hb
       rw [hH] at hb
       refine Snd.get hb ?_
       split
       · rename_i hc
         obtain ⟨_,rfl⟩:=hg hc.1
         obtain ⟨c1,es,clock,c2,c3,c4,c5,c6⟩:=hr.map hbE hc.2
         split
         · rename_i j v0 hfind
           obtain ⟨en,a2,a3,a4,a5,a6⟩:=hik.fnd _ _ c6 _ hfind
           have hj : es[j]? = some en:=by simpa using a3
           have hbn : en.born = j:=c3 _ _ hj
           have hrun : (Instr.mapEntry t (.map (some (E.φ id))) xv).run P E.w = .ok (.tuple #[en.val,goInt j]) { E.w with heap:=E.w.heap.setIfInBounds (E.φ id) (.map (es.modify j fun e=>{ e with key:=xv }) clock) }:=by
             simp [Instr.mapEntry,run_underlying hu,MapKept.run_getObj_map c2,hik.chk,a4 E.w,hj,a6,hik.stay,MapKept.run_setObj_map _ c2,Result.andThen,hbn]
           obtain ⟨h1,h2⟩:=hr.setEntry (x:=x) (v:=v0) (f:=fun e=>{ e with key:=xv }) hbE hc.2 c1 c2 c3 c4 c5 c6 hj rfl hx a5
           refine Snd.put_ret _ _ hrun (by simp only [hH]) h1 h2 ?_
           simp only [Rep]
           exact ⟨_,rfl,by simp only [RepL,Rep]; exact ⟨_,_,rfl,Rep.mono h2 _ _ a5,_,_,rfl,rfl,rfl⟩⟩
         · rename_i hfind
           split
           · rename_i z hz
             obtain ⟨u,z1,z2⟩:=zeroA_run hz
             have hf:=hik.fnd _ _ c6 none hfind E.w
             have hrun : (Instr.mapEntry t (.map (some (E.φ id))) xv).run P E.w = .ok (.tuple #[u,goInt clock]) { E.w with heap:=E.w.heap.setIfInBounds (E.φ id) (.map (es.push { key:=xv,val:=u,born:=clock }) (clock + 1)) }:=by
               simp [Instr.mapEntry,run_underlying hu,MapKept.run_getObj_map c2,hik.chk,hf,z1,MapKept.run_setObj_map _ c2,Result.andThen]
             obtain ⟨h1,h2⟩:=hr.pushEntry hbE hc.2 c1 c2 c3 c4 c5 c6 hx (z2 E)
             refine Snd.put_ret _ _ hrun (by simp only [hH]) h1 h2 ?_
             simp only [Rep]
             exact ⟨_,rfl,by simp only [RepL,Rep]; exact ⟨_,_,rfl,z2 _,_,_,rfl,by rw [c4,c5]; rfl,rfl⟩⟩
           · exact Snd.fail
         · exact Snd.fail
       · exact Snd.fail
     · exact Snd.fail
   · exact Snd.fail
 · exact Snd.fail
theorem entryStore_snd {P : Program} {E : Env} {H : NL ABlk} (hH : E.H = lk H) (hr : HR E) {t : TypeId} {m s v : AV} {mv sv vv : Value} (hm : Rep E m mv) (hs : Rep E s sv) (hv : Rep E v vv) :
   Snd P E H (entryStoreA m s v) (do Instr.entryStore t mv sv vv; pure undef):=by
 unfold entryStoreA
 split
 · rename_i id g n
   simp only [Rep] at hm hs
   subst hs
   obtain ⟨blk,r,hb,hle,rfl,hg⟩:=hm
   have hbE:=hb
   rw [hH] at hb
   refine Snd.get hb ?_
   split
   · rename_i hc
     obtain ⟨_,rfl⟩:=hg hc.1
     obtain ⟨c1,es,clock,c2,c3,c4,c5,c6⟩:=hr.map hbE hc.2.1
     split
     · rename_i x v0 hrow
       obtain ⟨k',v',en,q1,q2,q3,q4⟩:=c6.2 _ _ hrow
       simp only [List.cons.injEq,and_true] at q1
       obtain ⟨rfl,rfl⟩:=q1
       have hj : es[n.toNat]? = some en:=by simpa using q2
       have hn : ((n.toNat : Nat) : Int) = n:=Int.toNat_of_nonneg hc.2.2
       have hfi:=heapId_born c3 hj
       rw [hn] at hfi
       have hrun : (do Instr.entryStore t (.map (some (E.φ id))) (.int .i64 n) vv; pure undef : Sem Value).run P E.w = .ok undef { E.w with heap:=E.w.heap.setIfInBounds (E.φ id) (.map (es.modify n.toNat fun e=>{ e with val:=vv }) clock) }:=by
         simp [Instr.entryStore,MapKept.run_getObj_map c2,asInt,asIntOf,hfi,MapKept.run_setObj_map _ c2,Result.andThen]
       obtain ⟨h1,h2⟩:=hr.setEntry (x:=x) (v:=v) (f:=fun e=>{ e with val:=vv }) hbE hc.2.1 c1 c2 c3 c4 c5 c6 hj rfl q3 hv
       exact Snd.put_ret _ _ hrun (by simp only [hH]) h1 h2 trivial
     · exact Snd.fail
   · exact Snd.fail
 · exact Snd.fail
end
end Go.Abs
namespace Go.Abs
open Go
set_option linter.unusedSimpArgs false
section
def nilB (d : TypeDesc) (x y : AV) : Option Bool := match d,x,y with
 | .pointer _, .nilp, .nilp=>some true
 | .pointer _, .nilp, .ptr _ _ _ _=>some false
 | .pointer _, .ptr _ _ _ _, .nilp=>some false
 | .pointer _, .nilp, .cptr _=>some false
 | .pointer _, .cptr _, .nilp=>some false
 | .slice _, .nils, .nils=>some true
 | .slice _, .nils, .list _ (_ :: _)=>some false
 | .slice _, .list _ (_ :: _), .nils=>some false
 | .slice _, .nils, .psl _ _ _ _ _=>some false
 | .slice _, .psl _ _ _ _ _, .nils=>some false
 | .map _ _, .nilm, .nilm=>some true
 | .map _ _, .nilm, .amap _ _=>some false
 | .map _ _, .amap _ _, .nilm=>some false
 | .func _ _ _, .nilf, .nilf=>some true
 | .func _ _ _, .nilf, .fn _ _ _=>some false
 | .func _ _ _, .fn _ _ _, .nilf=>some false
 | _,_,_=>none
def EqR (P : Program) (w : World) (t : TypeId) (v u : Value) (b : Bool) : Prop :=
 (∀ (op : BinOp) (ox oy : Operand),(eqGuard op t ox oy v u).run P w = .ok () w) ∧ (∀ q,(Op.equalIn (q + 1) t v u).run P w = .ok b w) ∧
 (binOp .eql t v u = do pure (.bool (← Op.equal t v u))) ∧ (binOp .neq t v u = do pure (.bool (!(← Op.equal t v u))))
theorem EqR.eql {P : Program} {w : World} {t : TypeId} {v u : Value} {b : Bool} (h : EqR P w t v u b) (ox oy : Operand) : ((do eqGuard .eql t ox oy v u; binOp .eql t v u) : Sem Value).run P w = .ok (.bool b) w := by
 obtain ⟨h1,h2,h3,_⟩:=h
 have h2' : (Op.equal t v u).run P w = .ok b w:=h2 9999
 rw [h3]
 simp [h1,h2']
theorem EqR.neq {P : Program} {w : World} {t : TypeId} {v u : Value} {b : Bool} (h : EqR P w t v u b) (ox oy : Operand) : ((do eqGuard .neq t ox oy v u; binOp .neq t v u) : Sem Value).run P w = .ok (.bool (!b)) w := by
 obtain ⟨h1,h2,_,h3⟩:=h
 have h2' : (Op.equal t v u).run P w = .ok b w:=h2 9999
 rw [h3]
 simp [h1,h2']
theorem EqR.mkP {P : Program} {w : World} {t : TypeId} {a b : Option Addr} {r : Bool} (h : ∀ q,(Op.equalIn (q + 1) t (.pointer a) (.pointer b)).run P w = .ok r w) : EqR P w t (.pointer a) (.pointer b) r :=
 ⟨fun op ox oy=>by cases op <;> simp [eqGuard],h,by simp [binOp],by simp [binOp]⟩
theorem EqR.mkS {P : Program} {w : World} {t : TypeId} {a b : Option Addr} {n m c d : Nat} {r : Bool} (h : ∀ q,(Op.equalIn (q + 1) t (.slice a n c) (.slice b m d)).run P w = .ok r w) : EqR P w t (.slice a n c) (.slice b m d) r :=
 ⟨fun op ox oy=>by cases op <;> simp [eqGuard],h,by simp [binOp],by simp [binOp]⟩
theorem EqR.mkM {P : Program} {w : World} {t : TypeId} {a b : Option Nat} {r : Bool} (h : ∀ q,(Op.equalIn (q + 1) t (.map a) (.map b)).run P w = .ok r w) : EqR P w t (.map a) (.map b) r :=
 ⟨fun op ox oy=>by cases op <;> simp [eqGuard],h,by simp [binOp],by simp [binOp]⟩
theorem nilB_run {P : Program} {E : Env} {t : TypeId} {d : TypeDesc} (hu : P.underlying t = some d) {x y : AV} {v u : Value} {b : Bool} (hx : Rep E x v) (hy : Rep E y u) (h : nilB d x y = some b) : EqR P E.w t v u b := by
 have ud : ∀ w,(underlying t).run P w = .ok d w:=fun w=>run_underlying' hu w
 unfold nilB at h
 split at h
 all_goals
   simp only [Option.some.injEq,reduceCtorEq] at h
   try subst h
   try simp only [Rep,RepI] at hx hy
 · subst hx; subst hy
   exact EqR.mkP (fun n=>by simp [Op.equalIn,ud])
 · subst hx; obtain ⟨_,_,_,_,rfl,_⟩:=hy
   exact EqR.mkP (fun n=>by simp [Op.equalIn,ud])
 · obtain ⟨_,_,_,_,rfl,_⟩:=hx; subst hy
   exact EqR.mkP (fun n=>by simp [Op.equalIn,ud])
 · subst hx; obtain ⟨_,_,rfl,_⟩:=hy
   exact EqR.mkP (fun n=>by simp [Op.equalIn,ud])
 · obtain ⟨_,_,rfl,_⟩:=hx; subst hy
   exact EqR.mkP (fun n=>by simp [Op.equalIn,ud])
 · subst hx; subst hy
   exact EqR.mkS (fun n=>by simp [Op.equalIn,ud])
 · subst hx
   rcases hy with ⟨_,hy⟩ | ⟨a,cap,rfl,_⟩
   · simp at hy
   · exact EqR.mkS (fun n=>by simp [Op.equalIn,ud])
 · subst hy
   rcases hx with ⟨_,hx⟩ | ⟨a,cap,rfl,_⟩
   · simp at hx
   · exact EqR.mkS (fun n=>by simp [Op.equalIn,ud])
 · subst hx; obtain ⟨_,_,_,_,_,rfl,_⟩:=hy
   exact EqR.mkS (fun n=>by simp [Op.equalIn,ud])
 · obtain ⟨_,_,_,_,_,rfl,_⟩:=hx; subst hy
   exact EqR.mkS (fun n=>by simp [Op.equalIn,ud])
 · subst hx; subst hy
   exact EqR.mkM (fun n=>by simp [Op.equalIn,ud])
 · subst hx; obtain ⟨_,_,_,_,rfl,_⟩:=hy
   exact EqR.mkM (fun n=>by simp [Op.equalIn,ud])
 · obtain ⟨_,_,_,_,rfl,_⟩:=hx; subst hy
   exact EqR.mkM (fun n=>by simp [Op.equalIn,ud])
 · subst hx; subst hy
   exact ⟨fun op ox oy=>by cases op <;> simp [eqGuard],fun n=>by simp [Op.equalIn,ud],by simp [binOp],by simp [binOp]⟩
 · subst hx; obtain ⟨_,_,rfl,_⟩:=hy
   exact ⟨fun op ox oy=>by cases op <;> simp [eqGuard],fun n=>by simp [Op.equalIn,ud],by simp [binOp],by simp [binOp]⟩
 · obtain ⟨_,_,rfl,_⟩:=hx; subst hy
   exact ⟨fun op ox oy=>by cases op <;> simp [eqGuard],fun n=>by simp [Op.equalIn,ud],by simp [binOp],by simp [binOp]⟩
theorem addr_heap {E : Env} {H : NL ABlk} (hH : E.H = lk H) (hr : HR E) {i r : Nat} {b : ABlk} (hb : lk H i = some b) (hk : b.kind = 1 ∨ b.kind = 2) (hrl : r < b.rows.length) : 0 < E.cs i ∧ ∃ C,E.w.heap[E.φ i]? = some (.cells C b.elem (0,0)) := by
 obtain ⟨C,hC,hcs,hsz,hle,_,_⟩:=hr.cells (by rw [hH]; exact hb) hk
 have : 0 < b.rows.length * b.size:=Nat.mul_pos (by omega) hsz
 exact ⟨by omega,C,hC (by omega)⟩
def nilA (P : Program) (ng : Bool) (t : TypeId) (x y : AV) : AP AV := match P.underlying t with
  | none => .fail
  | some d=>match nilB d x y with
    | some b => .ret (.bool (ng != b))
    | none=>match d,x,y with
      | .slice _, .nils, .sl id g _ (_ + 1) => .get id fun b=>if b.gen = g then .ret (.bool (ng != false)) else .fail
      | .slice _, .sl id g _ (_ + 1), .nils => .get id fun b=>if b.gen = g then .ret (.bool (ng != false)) else .fail
      | .pointer e, .ptr i g r o, .ptr j g' r' o'=>match szOf P e with
        | some (_ + 1) => .get i fun b => .get j fun b' =>
          if b.gen = g ∧ b'.gen = g' ∧ r < b.rows.length ∧ r' < b'.rows.length then .ret (.bool (ng != decide (i = j ∧ r * b.size + o = r' * b'.size + o'))) else .fail
        | _ => .fail
      | _,_,_ => .fail
theorem nil_snd {P : Program} {E : Env} {H : NL ABlk} (hH : E.H = lk H) (hr : HR E) {t : TypeId} {ox oy : Operand} {x y : AV} {v u : Value} (hx : Rep E x v) (hy : Rep E y u) :
   Snd P E H (nilA P false t x y) (do eqGuard .eql t ox oy v u; binOp .eql t v u) ∧ Snd P E H (nilA P true t x y) (do eqGuard .neq t ox oy v u; binOp .neq t v u):=by
 have fin : ∀ {b : Bool},EqR P E.w t v u b → Snd P E H (.ret (.bool (false != b))) (do eqGuard .eql t ox oy v u; binOp .eql t v u) ∧ Snd P E H (.ret (.bool (true != b))) (do eqGuard .neq t ox oy v u; binOp .neq t v u):=fun {b} h =>
   ⟨by rw [show (false != b) = b by cases b <;> rfl]; exact Snd.retBool hH hr (h.eql ox oy),by rw [show (true != b) = !b by cases b <;> rfl]; exact Snd.retBool hH hr (h.neq ox oy)⟩
 unfold nilA
 cases hu : P.underlying t with
 | none=>exact ⟨Snd.fail,Snd.fail⟩
 | some d =>
   have ud : ∀ w,(underlying t).run P w = .ok d w:=fun w=>run_underlying' hu w
   dsimp only
   cases hb : nilB d x y with
   | some b=>exact fin (nilB_run hu hx hy hb)
   | none =>
     dsimp only
     split
     · rename_i e id g off n
       simp only [Rep] at hx hy
       subst hx
       obtain ⟨blk,a,len',cap,hbk,hle,rfl,hg⟩:=hy
       rw [hH] at hbk
       have key : blk.gen = g → EqR P E.w t (.slice none 0 0) (.slice a len' cap) false:=fun e0=>by
         obtain ⟨_,rfl,h2,h3,h4⟩:=hg e0
         obtain ⟨rfl,_⟩:=h4 (by omega)
         exact EqR.mkS (fun n=>by simp [Op.equalIn,ud])
       refine ⟨Snd.get hbk ?_,Snd.get hbk ?_⟩
       · split
         · rename_i e0; exact (fin (key e0)).1
         · exact Snd.fail
       · split
         · rename_i e0; exact (fin (key e0)).2
         · exact Snd.fail
     · rename_i e id g off n
       simp only [Rep] at hx hy
       subst hy
       obtain ⟨blk,a,len',cap,hbk,hle,rfl,hg⟩:=hx
       rw [hH] at hbk
       have key : blk.gen = g → EqR P E.w t (.slice a len' cap) (.slice none 0 0) false:=fun e0=>by
         obtain ⟨_,rfl,h2,h3,h4⟩:=hg e0
         obtain ⟨rfl,_⟩:=h4 (by omega)
         exact EqR.mkS (fun n=>by simp [Op.equalIn,ud])
       refine ⟨Snd.get hbk ?_,Snd.get hbk ?_⟩
       · split
         · rename_i e0; exact (fin (key e0)).1
         · exact Snd.fail
       · split
         · rename_i e0; exact (fin (key e0)).2
         · exact Snd.fail
     · rename_i e i g r o j g' r' o'
       cases hs : szOf P e with
       | none=>exact ⟨Snd.fail,Snd.fail⟩
       | some s =>
         cases s with
         | zero=>exact ⟨Snd.fail,Snd.fail⟩
         | succ s =>
           dsimp only
           simp only [Rep] at hx hy
           obtain ⟨b1,a1,hb1,hle1,rfl,hg1⟩:=hx
           obtain ⟨b2,a2,hb2,hle2,rfl,hg2⟩:=hy
           have key : b1.gen = g ∧ b2.gen = g' ∧ r < b1.rows.length ∧ r' < b2.rows.length → EqR P E.w t (.pointer (some a1)) (.pointer (some a2)) (decide (i = j ∧ r * b1.size + o = r' * b2.size + o')):=by
             rintro ⟨q1,q2,q3,q4⟩
             obtain ⟨k1,rfl⟩:=hg1 q1
             obtain ⟨k2,rfl⟩:=hg2 q2
             obtain ⟨c1,C1,h1⟩:=addr_heap hH hr (by rw [← hH]; exact hb1) k1 q3
             obtain ⟨c2,C2,h2⟩:=addr_heap hH hr (by rw [← hH]; exact hb2) k2 q4
             refine EqR.mkP (fun n=>?_)
             by_cases he : i = j ∧ r * b1.size + o = r' * b2.size + o'
             · obtain ⟨rfl,he⟩:=he
               rw [hb1] at hb2; cases hb2
               simp only [he,and_self,decide_true]
               simp [Op.equalIn,ud,run_sizeOf' hs,run_sameAddr_same]
             · have hne : (⟨E.φ i,r * b1.size + o,none⟩ : Addr) ≠ ⟨E.φ j,r' * b2.size + o',none⟩:=by
                 intro e
                 simp only [Addr.mk.injEq,and_true] at e
                 obtain ⟨e1,e2⟩:=e
                 by_cases hij : i = j
                 · exact he ⟨hij,e2⟩
                 · exact hr.inj i j b1 b2 hb1 hb2 (by omega) (by omega) c1 c2 hij e1
               have:=run_sameAddr_other (P:=P) E.w hne h1 h2
               simp only [he,decide_false]
               simp [Op.equalIn,ud,run_sizeOf' hs,this]
           refine ⟨Snd.get (by rw [← hH]; exact hb1) (Snd.get (by rw [← hH]; exact hb2) ?_),Snd.get (by rw [← hH]; exact hb1) (Snd.get (by rw [← hH]; exact hb2) ?_)⟩
           · split
             · rename_i q; exact (fin (key q)).1
             · exact Snd.fail
           · split
             · rename_i q; exact (fin (key q)).2
             · exact Snd.fail
     · exact ⟨Snd.fail,Snd.fail⟩
end
end Go.Abs
