/- Comparing structs and nil, and every operation but calls in one table. Conditions: none. -/
import Derived.Test.YtphclapfniepoaaGreatAb3
import Derived.ChangeKeysEq
namespace Go.Abs
open Go
section
def partV (P : Program) (t : TypeId) (cells : List AV) (off : Nat) : Option AV :=
 match aggT P t with
 | some true=>match szOf P t with
   | some s=>some (.agg ((cells.drop off).take s))
   | none=>none
 | some false=>cells[off]?
 | none=>none
def eqFs (P : Program) (q : TypeId → AV → AV → Option Bool) (xs ys : List AV) : List Field → Option Bool
 | []=>some true
 | f :: r => if f.name = "_" then eqFs P q xs ys r else
   match partV P f.type xs f.offset,partV P f.type ys f.offset with
   | some a,some b=>match q f.type a b,eqFs P q xs ys r with
     | some x,some y=>some (x && y)
     | _,_=>none
   | _,_=>none
def eqIs (P : Program) (q : TypeId → AV → AV → Option Bool) (e : TypeId) (c : Nat) (xs ys : List AV) : List Nat → Option Bool
 | []=>some true
 | i :: r =>
   match partV P e xs (i * c),partV P e ys (i * c) with
   | some a,some b=>match q e a b,eqIs P q e c xs ys r with
     | some x,some y=>some (x && y)
     | _,_=>none
   | _,_=>none
def eqV (P : Program) : Nat → TypeId → AV → AV → Option Bool
 | 0,_,_,_=>none
 | d + 1,t,x,y =>
   match P.underlying t,x,y with
   | some .bool, .bool a, .bool b=>some (a == b)
   | some (.int _), .int k a, .int k' b=>if k = k' then some (a == b) else none
   | some .string, .str a, .str b=>some (a.toList == b.toList)
   | some (.struct fs), .agg xs, .agg ys=>if P.stoodInHeld t = false then eqFs P (eqV P d) xs ys fs.toList else none
   | some (.array n e), .agg xs, .agg ys=>if (P.info? e).isSome then eqIs P (eqV P d) e (P.cellsOf e) xs ys (List.range n) else none
   | _,_,_=>none
theorem partV_run {P : Program} {E : Env} {t : TypeId} {cells : List AV} {cs : Array Value} {off : Nat} {x : AV} (hx : RepL E cells cs.toList) (h : partV P t cells off = some x) :
   ∃ v,(∀ w,(part t cs off).run P w = .ok v w) ∧ Rep E x v:=by
 unfold partV at h
 cases ha : aggT P t with
 | none=>simp [ha] at h
 | some b =>
   cases b with
   | true =>
     cases hs : szOf P t with
     | none=>simp [ha,hs] at h
     | some s =>
       simp only [ha,hs,Option.some.injEq] at h
       subst h
       refine ⟨.agg (cs.extract off (off + s)),fun w=>?_, ?_⟩
       · simp [part,run_isAgg' ha,run_sizeOf' hs]
       · simp only [Rep]
         refine ⟨_,rfl, ?_⟩
         rw [Array.toList_extract,List.extract_eq_take_drop,show off + s - off = s from by omega]
         exact (hx.drop off).take s
   | false =>
     simp only [ha] at h
     obtain ⟨v,hv,hr'⟩:=hx.get h
     have hv' : cs[off]? = some v:=by simpa using hv
     exact ⟨v,fun w=>by simp [part,run_isAgg' ha,hv'],hr'⟩
theorem eqFs_run {P : Program} {E : Env} {q : TypeId → AV → AV → Option Bool} {d : Nat} (hq : ∀ (t : TypeId) (x y : AV) (v u : Value) (b : Bool),q t x y = some b → Rep E x v → Rep E y u → ∀ w,(Op.equalIn d t v u).run P w = .ok b w)
   {xs ys : List AV} {vs us : Array Value} (hx : RepL E xs vs.toList) (hy : RepL E ys us.toList) : ∀ {fs : List Field} {b : Bool},eqFs P q xs ys fs = some b → ∀ w,(Op.eqFields d vs us fs).run P w = .ok b w
 | [],b,h,w=>by simp only [eqFs,Option.some.injEq] at h; subst h; simp [Op.eqFields]
 | f :: r,b,h,w=>by
   simp only [eqFs] at h
   split at h
   · rename_i hn
     simp only [Op.eqFields,hn,ne_eq,not_true_eq_false,if_false]
     exact eqFs_run hq hx hy h w
   · rename_i hn
     split at h
     · rename_i a c ha hc
       obtain ⟨va,ra,xa⟩:=partV_run hx ha
       obtain ⟨vc,rc,xc⟩:=partV_run hy hc
       split at h
       · rename_i b1 b2 e1 e2
         simp only [Option.some.injEq] at h
         subst h
         have hr:=eqFs_run hq hx hy e2
         simp only [Op.eqFields,ne_eq,hn,not_false_eq_true,if_true,Sem.run_bind,ra,rc,Result.andThen_ok,hq _ _ _ _ _ _ e1 xa xc w]
         cases b1
         · simp
         · simpa using hr w
       · cases h
     · cases h
theorem eqIs_run {P : Program} {E : Env} {q : TypeId → AV → AV → Option Bool} {d : Nat} (hq : ∀ (t : TypeId) (x y : AV) (v u : Value) (b : Bool),q t x y = some b → Rep E x v → Rep E y u → ∀ w,(Op.equalIn d t v u).run P w = .ok b w)
   {e : TypeId} {c : Nat} {xs ys : List AV} {vs us : Array Value} (hx : RepL E xs vs.toList) (hy : RepL E ys us.toList) : ∀ {is : List Nat} {b : Bool},eqIs P q e c xs ys is = some b → ∀ w,(Op.eqItems d e c vs us is).run P w = .ok b w
 | [],b,h,w=>by simp only [eqIs,Option.some.injEq] at h; subst h; simp [Op.eqItems]
 | i :: r,b,h,w=>by
   simp only [eqIs] at h
   split at h
   · rename_i a c' ha hc
     obtain ⟨va,ra,xa⟩:=partV_run hx ha
     obtain ⟨vc,rc,xc⟩:=partV_run hy hc
     split at h
     · rename_i b1 b2 e1 e2
       simp only [Option.some.injEq] at h
       subst h
       have hr:=eqIs_run hq hx hy e2
       simp only [Op.eqItems,Sem.run_bind,ra,rc,Result.andThen_ok,hq _ _ _ _ _ _ e1 xa xc w]
       cases b1
       · simp
       · simpa using hr w
     · cases h
   · cases h
theorem eqV_run {P : Program} {E : Env} : ∀ {d : Nat} (m : Nat),d ≤ m → ∀ (t : TypeId) (x y : AV) (v u : Value) (b : Bool),eqV P d t x y = some b → Rep E x v → Rep E y u → ∀ w,(Op.equalIn m t v u).run P w = .ok b w
 | 0,_,_,_,_,_,_,_,_,h,_,_,_=>by simp [eqV] at h
 | d + 1,0,hm,_,_,_,_,_,_,_,_,_,_=>by omega
 | d + 1,m + 1,hm,t,x,y,v,u,b,h,hx,hy,w=>by
   simp only [eqV] at h
   split at h
   · rename_i hu
     simp only [Rep] at hx hy; subst hx; subst hy
     simp only [Option.some.injEq] at h; subst h
     exact run_equalIn_bool' w m t _ _ hu
   · rename_i hu
     simp only [Rep] at hx hy; subst hx; subst hy
     split at h
     · rename_i hk; subst hk
       simp only [Option.some.injEq] at h; subst h
       exact run_equalIn_int w m t _ _ _ _ hu
     · cases h
   · rename_i hu
     simp only [Rep] at hx hy; subst hx; subst hy
     simp only [Option.some.injEq] at h; subst h
     exact run_equalIn_string w m t _ _ hu
   · rename_i fs xs ys hu
     simp only [Rep] at hx hy
     obtain ⟨vs,rfl,hvx⟩:=hx
     obtain ⟨us,rfl,hvy⟩:=hy
     split at h
     · rename_i hp
       have hf : P.fieldsOf t = fs:=by simp [Program.fieldsOf,hu]
       rw [run_equalIn_struct w m t vs us (by rw [hf]; exact hu) hp,hf]
       exact eqFs_run (fun t x y v u b h1 h2 h3 w=>eqV_run m (by omega) t x y v u b h1 h2 h3 w) hvx hvy h w
     · cases h
   · rename_i n e xs ys hu
     simp only [Rep] at hx hy
     obtain ⟨vs,rfl,hvx⟩:=hx
     obtain ⟨us,rfl,hvy⟩:=hy
     split at h
     · rename_i hi
       obtain ⟨i,hi⟩:=Option.isSome_iff_exists.1 hi
       rw [run_equalIn_array w m vs us hu hi]
       exact eqIs_run (fun t x y v u b h1 h2 h3 w=>eqV_run m (by omega) t x y v u b h1 h2 h3 w) hvx hvy h w
     · cases h
   · cases h
def eqlA (P : Program) (op : BinOp) (t : TypeId) (x y : AV) : AP AV :=
 match op with
 | .eql=>match x,y with
   | .bool a, .bool b=>match P.underlying t with
     | some .bool => .ret (.bool (a == b))
     | _ => .fail
   | .agg xs, .agg ys=>if P.eqGuardType P.depth t = false then match eqV P 9 t (.agg xs) (.agg ys) with
       | some b => .ret (.bool b)
       | none => .fail
     else .fail
   | x,y=>nilA P false t x y
 | .neq=>match x,y with
   | .bool a, .bool b=>match P.underlying t with
     | some .bool => .ret (.bool (!(a == b)))
     | _ => .fail
   | .agg xs, .agg ys=>if P.eqGuardType P.depth t = false then match eqV P 9 t (.agg xs) (.agg ys) with
       | some b => .ret (.bool (!b))
       | none => .fail
     else .fail
   | x,y=>nilA P true t x y
 | _ => .fail
theorem eql_snd {P : Program} {E : Env} {H : NL ABlk} (hH : E.H = lk H) (hr : HR E) {op : BinOp} {t : TypeId} {ox oy : Operand} {x y : AV} {v u : Value} (hx : Rep E x v) (hy : Rep E y u) :
   Snd P E H (eqlA P op t x y) (do eqGuard op t ox oy v u; binOp op t v u):=by
 unfold eqlA
 split
 · split
   · rename_i a b
     simp only [Rep] at hx hy; subst hx; subst hy
     split
     · rename_i hu
       refine Snd.retBool hH hr ?_
       have:=run_equalIn_bool' (P:=P) E.w 9999 t a b hu
       simp [eqGuard_at_bool,binOp,Op.equal,Op.maxDepth,this]
     · exact Snd.fail
   · rename_i xs ys
     split
     · rename_i hgd
       cases he : eqV P 9 t (.agg xs) (.agg ys) with
       | none=>exact Snd.fail
       | some b =>
         have hrun:=eqV_run (P:=P) (E:=E) (d:=9) 10000 (by omega) t _ _ v u b he hx hy E.w
         simp only [Rep] at hx hy
         obtain ⟨vs,rfl,_⟩:=hx
         obtain ⟨us,rfl,_⟩:=hy
         refine Snd.retBool hH hr ?_
         simp only [Sem.run_bind,run_eqGuard_agg E.w .eql t ox oy vs us hgd,Result.andThen_ok,run_eql_struct,hrun]
     · exact Snd.fail
   · exact (nil_snd hH hr hx hy).1
 · split
   · rename_i a b
     simp only [Rep] at hx hy; subst hx; subst hy
     split
     · rename_i hu
       refine Snd.retBool hH hr ?_
       have:=run_equalIn_bool' (P:=P) E.w 9999 t a b hu
       simp [eqGuard_at_bool,binOp,Op.equal,Op.maxDepth,this]
     · exact Snd.fail
   · rename_i xs ys
     split
     · rename_i hgd
       cases he : eqV P 9 t (.agg xs) (.agg ys) with
       | none=>exact Snd.fail
       | some b =>
         have hrun:=eqV_run (P:=P) (E:=E) (d:=9) 10000 (by omega) t _ _ v u b he hx hy E.w
         simp only [Rep] at hx hy
         obtain ⟨vs,rfl,_⟩:=hx
         obtain ⟨us,rfl,_⟩:=hy
         refine Snd.retBool hH hr ?_
         simp only [Sem.run_bind,run_eqGuard_agg E.w .neq t ox oy vs us hgd,Result.andThen_ok,run_neq_struct,hrun]
     · exact Snd.fail
   · exact (nil_snd hH hr hx hy).2
 · exact Snd.fail
def binA (P : Program) (op : BinOp) (t : TypeId) (x y : AV) : AP AV :=
 match x,y with
 | .int _ _, .int _ _=>binOpA op x y
 | .str _, .str _=>binOpA op x y
 | _,_=>eqlA P op t x y
theorem bin_snd {P : Program} {E : Env} {H : NL ABlk} (hH : E.H = lk H) (hr : HR E) {op : BinOp} {t : TypeId} {ox oy : Operand} {x y : AV} {v u : Value} (hx : Rep E x v) (hy : Rep E y u) :
   Snd P E H (binA P op t x y) (do eqGuard op t ox oy v u; binOp op t v u):=by
 unfold binA
 split
 · exact binOp_snd hH hr hx hy
 · exact binOp_snd hH hr hx hy
 · exact eql_snd hH hr hx hy
def pickA (c a b : AV) : AP AV :=
 match c with
 | .bool true => .ret a
 | .bool false => .ret b
 | _ => .fail
def nilCheckA (x : AV) : AP AV :=
 match x with
 | .ptr _ _ _ _ | .cptr _ => .ret x
 | .fn (.func _) _ _ => .ret x
 | _ => .fail
def mmA (mx : Bool) (xs : List AV) : AP AV :=
 match xs with
 | [.int k x, .int _ y] => .ret (.int k (if mx then (if y > x then y else x) else (if y < x then y else x)))
 | _ => .fail
theorem mm_snd {P : Program} {E : Env} {H : NL ABlk} (hH : E.H = lk H) (hr : HR E) {mx : Bool} {ts : Array TypeId} {ty : TypeId} {xs : List AV} {vs : Array Value} (hx : RepL E xs vs.toList) :
   Snd P E H (mmA mx xs) (if mx then Builtin.max_ ts ty vs else Builtin.min_ ts ty vs):=by
 unfold mmA
 split
 · rename_i k x k' y
   simp only [RepL,Rep] at hx
   obtain ⟨_,_,hv,rfl,_,_,rfl,rfl,rfl⟩:=hx
   have ea : vs = #[.int k x, .int k' y]:=Array.ext' hv
   refine Snd.ret hH hr (v := .int k (if mx then (if y > x then y else x) else (if y < x then y else x))) ?_ (by simp only [Rep])
   subst ea
   cases mx <;> simp [Builtin.max_,Builtin.min_,Builtin.max2,Builtin.min2]
 · exact Snd.fail
def sliceArrA (P : Program) (t : TypeId) (x : AV) (lo hi : Option AV) : AP AV :=
 match P.underlying t,x with
 | some (.array n elem), .ptr id g r o=>match bndA 0 lo,bndA n hi,szOf P elem with
   | some l,some h,some s=>if l < h ∧ h ≤ n then .ret (.psl id g r (o + l * s) (h - l)) else .fail
   | _,_,_ => .fail
 | _, .slc i g o l c=>sliceCA P t (.slc i g o l c) lo hi
 | _,_=>sliceA P t x lo hi
theorem sliceArr_snd {P : Program} {E : Env} {H : NL ABlk} (hH : E.H = lk H) (hr : HR E) {t : TypeId} {x : AV} {v : Value} {lo hi : Option AV} {vlo vhi : Option Value} (hx : Rep E x v) (h1 : RepO E lo vlo) (h2 : RepO E hi vhi) :
   Snd P E H (sliceArrA P t x lo hi) (Instr.sliceAt t v vlo vhi none):=by
 unfold sliceArrA
 split
 · rename_i n elem id g r o hu
   split
   · rename_i l h s e1 e2 e3
     split
     · rename_i hc
       obtain ⟨g1,g2⟩:=hc
       obtain ⟨a,rfl,hp⟩:=ptr_add (k:=l * s) hx
       have hb:=bounds_run (P:=P) (isSlice:=false) (len:=n) (cap:=n) h1 h2 e1 e2 (by omega) g2
       refine Snd.ret hH hr (v := .slice (some (a.add (l * s))) (h - l) (n - l)) ?_ ?_
       · have : ¬ (n = l):=by omega
         simp [Instr.sliceAt,run_underlying' hu,Instr.sureAddr,hb,run_sizeOf' e3,this]
       · simp only [Rep] at hp ⊢
         obtain ⟨blk,a',q1,q2,q3,q4⟩:=hp
         simp only [Value.pointer.injEq,Option.some.injEq] at q3
         exact ⟨blk,_,_,q1,q2,rfl,fun e=>by rw [q3]; exact q4 e⟩
     · exact Snd.fail
   · exact Snd.fail
 · exact sliceC_snd hH hr hx h1 h2
 · exact slice_snd hH hr hx h1 h2
def arrayAtA (P : Program) (t : TypeId) (x : AV) : AP AV :=
 match P.underlying t,x with
 | some (.array n _), .psl id g r o len=>if n ≤ len then .ret (.ptr id g r o) else .fail
 | _,_ => .fail
theorem arrayAt_snd {P : Program} {E : Env} {H : NL ABlk} (hH : E.H = lk H) (hr : HR E) {t : TypeId} {x : AV} {v : Value} (hx : Rep E x v) :
   Snd P E H (arrayAtA P t x) (Instr.arrayAt t v):=by
 unfold arrayAtA
 split
 · rename_i n elem id g r o len hu
   split
   · rename_i hn
     simp only [Rep] at hx
     obtain ⟨blk,a,cap,q1,q2,rfl,q4⟩:=hx
     refine Snd.ret hH hr (v := .pointer (some a)) ?_ ?_
     · have : ¬ len < n:=by omega
       simp [Instr.arrayAt,run_underlying' hu,this]
     · simp only [Rep]
       exact ⟨blk,a,q1,q2,rfl,q4⟩
   · exact Snd.fail
 · exact Snd.fail
def builtinA (P : Program) (dst : Nat) (b : Builtin) (ts : List TypeId) (xs : List AV) : AP AV :=
 match b with
 | .len=>match ts,xs with
   | [t],[x]=>lenXA P t x
   | _,_ => .fail
 | .append=>match ts,xs with
   | [t,t'],[s,x]=>appendSA P dst t t' s x
   | _,_ => .fail
 | .clear=>match ts,xs with
   | [t],[x]=>clearA P t x
   | _,_ => .fail
 | .cap=>match ts,xs with
   | [t],[x]=>capA P t x
   | _,_ => .fail
 | .copy=>match ts,xs with
   | [t,_],[d,s]=>copyA P t d s
   | _,_ => .fail
 | .min=>mmA false xs
 | .max=>mmA true xs
 | _ => .fail
def opA (P : Program) (ρ : Operand → AV) (dst : Nat) (op : Op) : AP AV :=
 match op with
 | .move x | .assign x => .ret (ρ x)
 | .pick c a b=>pickA (ρ c) (ρ a) (ρ b)
 | .alloc elem=>allocA P elem dst
 | .box elem x=>boxA elem dst (ρ x)
 | .build t parts=>buildA P t (parts.toList.map fun p=>(p.1, ρ p.2))
 | .buildSlice t len parts=>buildSliceA P dst t len (parts.toList.map fun p=>(p.1, ρ p.2))
 | .load t a=>loadA P t (ρ a)
 | .store t a x=>storeA P t (ρ a) (ρ x)
 | .nilCheck x=>nilCheckA (ρ x)
 | .binOp op xType x y _=>binA P op xType (ρ x) (ρ y)
 | .unOp op _ x=>unOpA op (ρ x)
 | .convert src dst x=>convertA P src dst (ρ x)
 | .makeFunc fn first captured => .ret (.fn fn (first.toList.map ρ) (captured.toList.map ρ))
 | .makeSlice t l c=>makeSliceA P dst t (ρ l) (ρ c)
 | .slice t x lo hi none=>sliceArrA P t (ρ x) (lo.map ρ) (hi.map ρ)
 | .slice t x lo hi (some m)=>slice3A P t (ρ x) (lo.map ρ) (hi.map ρ) (ρ m)
 | .fieldAddr s x f=>fieldAddrA P s f (ρ x)
 | .field t x f=>fieldA P t f (ρ x)
 | .indexAddr t x ix=>indexAddrA P t (ρ x) (ρ ix)
 | .index t x ix=>indexA P t (ρ x) (ρ ix)
 | .extract t ix=>extractA (ρ t) ix
 | .makeMap _ r=>makeMapA dst (r.map ρ)
 | .lookup t m x ok=>lookupA P t (ρ m) (ρ x) ok
 | .sliceToArrayPointer t x=>arrayAtA P t (ρ x)
 | .mapUpdate t m x v | .insert t m x v=>mapUpdateA P t (ρ m) (ρ x) (ρ v)
 | .call c=>match c.callee with
   | .builtin b=>builtinA P dst b c.argTypes.toList (c.args.toList.map ρ)
   | _ => .fail
 | _ => .fail
def SndN (P : Program) (E : Env) (H : NL ABlk) (p : AP AV) (c : Sem Next) : Prop :=
 ∀ out,p.run H = some out → ∃ v E' n,c.run P E.w = .ok n E'.w ∧ (n = .value v ∨ n = .skip ∧ v = undef) ∧ E'.H = lk out.H ∧ HR E' ∧ Step E E' ∧ Rep E' out.val v ∧ out.as
theorem Snd.next {P : Program} {E : Env} {H : NL ABlk} {p : AP AV} {c : Sem Value} (h : Snd P E H p c) : SndN P E H p (do pure (.value (← c))) := fun out ho => by
 obtain ⟨v,E',h1,h2⟩:=h out ho
 exact ⟨v,E', .value v,by simp [h1], .inl rfl,h2⟩
theorem Snd.skip {P : Program} {E : Env} {H : NL ABlk} {p : AP AV} {c : Sem Unit} (h : Snd P E H p (do c; pure undef)) : SndN P E H p (do c; pure .skip) := fun out ho => by
 obtain ⟨v,E',h1,h2⟩:=h out ho
 simp only [Sem.run_bind,Sem.run_pure] at h1
 cases hc : c.run P E.w with
 | ok a w =>
   simp only [hc,Result.andThen_ok,Result.ok.injEq] at h1
   obtain ⟨rfl,rfl⟩:=h1
   exact ⟨undef,E', .skip,by simp [hc], .inr ⟨rfl,rfl⟩,h2⟩
 | halt x w=>simp [hc] at h1
theorem op_snd {P : Program} {E : Env} {H : NL ABlk} (hH : E.H = lk H) (hr : HR E) {ρA : Operand → AV} {ρ : Operand → Value} {o : Oper} {dst : Nat}
   (hρ : ∀ x,Rep E (ρA x) (ρ x)) : SndN P E H (opA P ρA dst o.op) (execOp ρ o):=by
 obtain ⟨d,op,type,pos,after,guard⟩:=o
 have parts : ∀ (ps : Array (Nat × Operand)) (k i : Nat) (x : AV),(ps.toList.map fun p=>(p.1, ρA p.2))[k]? = some (i,x) → ∃ v,(ps.map fun (p : Nat × Operand)=>(p.1, ρ p.2)).toList[k]? = some (i,v) ∧ Rep E x v:=by
   intro ps k i x h
   simp only [List.getElem?_map,Option.map_eq_some_iff] at h
   obtain ⟨p,hp,he⟩:=h
   simp only [Prod.mk.injEq] at he
   obtain ⟨rfl,rfl⟩:=he
   exact ⟨ρ p.2,by rw [Array.toList_map,List.getElem?_map,hp]; rfl,hρ _⟩
 have hopt : ∀ o : Option Operand,RepO E (o.map ρA) (o.map ρ):=by
   intro o; cases o with
   | none=>trivial
   | some x=>exact hρ x
 have fail : ∀ c,SndN P E H .fail c:=fun c out h=>by simp [AP.run] at h
 cases op with
 | move x=>exact Snd.next (c:=pure (ρ x)) (Snd.ret hH hr (v := ρ x) rfl (hρ x))
 | assign x=>exact Snd.next (c:=pure (ρ x)) (Snd.ret hH hr (v := ρ x) rfl (hρ x))
 | pick c a b =>
   simp only [opA,pickA]
   have hc:=hρ c
   split
   · rename_i e
     rw [e] at hc; simp only [Rep] at hc
     intro out ho
     simp only [AP.run,Option.some.injEq] at ho; subst ho
     exact ⟨ρ a,E, .value (ρ a),by simp [execOp,hc,asBool], .inl rfl,hH,hr,Step.refl E,hρ a,trivial⟩
   · rename_i e
     rw [e] at hc; simp only [Rep] at hc
     intro out ho
     simp only [AP.run,Option.some.injEq] at ho; subst ho
     exact ⟨ρ b,E, .value (ρ b),by simp [execOp,hc,asBool], .inl rfl,hH,hr,Step.refl E,hρ b,trivial⟩
   · exact fail _
 | alloc elem=>exact Snd.next (alloc_snd hH hr)
 | box elem x=>exact Snd.next (box_snd hH hr (hρ x))
 | build t ps=>exact Snd.next (build_snd hH hr (by simp) (parts ps))
 | buildSlice t len ps=>exact Snd.next (buildSlice_snd hH hr (by simp) (parts ps))
 | load t a=>exact Snd.next (load_snd hH hr (hρ a))
 | store t a x=>exact Snd.skip (store_snd hH hr (hρ a) (hρ x))
 | nilCheck x =>
   simp only [opA,nilCheckA]
   have hx:=hρ x
   split
   · rename_i e
     have hx':=hx
     rw [e] at hx'; simp only [Rep] at hx'
     obtain ⟨_,a,_,_,hv,_⟩:=hx'
     intro out ho
     simp only [AP.run,Option.some.injEq] at ho; subst ho
     exact ⟨ρ x,E, .value (ρ x),by simp [execOp,hv], .inl rfl,hH,hr,Step.refl E,hx,trivial⟩
   · rename_i e
     have hx':=hx
     rw [e] at hx'; simp only [Rep,RepI] at hx'
     obtain ⟨_,_,hv,_⟩:=hx'
     intro out ho
     simp only [AP.run,Option.some.injEq] at ho; subst ho
     exact ⟨ρ x,E, .value (ρ x),by simp [execOp,hv], .inl rfl,hH,hr,Step.refl E,hx,trivial⟩
   · rename_i e
     have hx':=hx
     rw [e] at hx'; simp only [Rep] at hx'
     obtain ⟨_,_,hv,_⟩:=hx'
     intro out ho
     simp only [AP.run,Option.some.injEq] at ho; subst ho
     exact ⟨ρ x,E, .value (ρ x),by simp [execOp,hv], .inl rfl,hH,hr,Step.refl E,hx,trivial⟩
   · exact fail _
 | binOp op xt x y yt=>exact Snd.next (bin_snd hH hr (hρ x) (hρ y))
 | unOp op xt x=>exact Snd.next (unOp_snd hH hr (hρ x))
 | convert src dst x=>exact Snd.next (convert_snd hH hr (hρ x))
 | makeFunc fn first captured =>
   have hl : ∀ a : Array Operand,RepL E (a.toList.map ρA) (a.map ρ).toList:=fun a =>
     RepL.of_get (by simp) fun i x h=>by
       simp only [List.getElem?_map,Option.map_eq_some_iff] at h
       obtain ⟨p,hp,rfl⟩:=h
       exact ⟨ρ p,by rw [Array.toList_map,List.getElem?_map,hp]; rfl,hρ p⟩
   refine Snd.next (Snd.ret hH hr (v := .func fn (first.map ρ) (captured.map ρ)) (by simp [Instr.makeFunc]) ?_)
   simp only [Rep]
   exact ⟨_,_,rfl,hl first,hl captured⟩
 | makeSlice t l c=>exact Snd.next (makeSlice_snd hH hr (hρ l) (hρ c))
 | slice t x lo hi mx =>
   cases mx with
   | none=>exact Snd.next (sliceArr_snd hH hr (hρ x) (hopt lo) (hopt hi))
   | some m=>exact Snd.next (slice3_snd hH hr (hρ x) (hopt lo) (hopt hi) (hρ m))
 | fieldAddr s x f=>exact Snd.next (fieldAddr_snd hH hr (hρ x))
 | field t x f=>exact Snd.next (field_snd hH hr (hρ x))
 | indexAddr t x ix=>exact Snd.next (indexAddr_snd hH hr (hρ x) (hρ ix))
 | index t x ix=>exact Snd.next (index_snd hH hr (hρ x) (hρ ix))
 | extract t ix=>exact Snd.next (extract_snd hH hr (hρ t))
 | makeMap t r =>
   cases r with
   | none=>exact Snd.next (makeMap_snd hH hr)
   | some r=>exact fail _
 | lookup t m x ok=>exact Snd.next (lookup_snd hH hr (hρ m) (hρ x))
 | sliceToArrayPointer t x=>exact Snd.next (arrayAt_snd hH hr (hρ x))
 | insert t m x v=>exact Snd.skip (mapUpdate_snd hH hr (hρ m) (hρ x) (hρ v))
 | mapUpdate t m x v=>exact Snd.skip (mapUpdate_snd hH hr (hρ m) (hρ x) (hρ v))
 | call c =>
   obtain ⟨callee,args,ts⟩:=c
   have hargs : RepL E (args.toList.map ρA) (args.map ρ).toList:=RepL.of_get (by simp) fun i x h=>by
     simp only [List.getElem?_map,Option.map_eq_some_iff] at h
     obtain ⟨p,hp,rfl⟩:=h
     exact ⟨ρ p,by rw [Array.toList_map,List.getElem?_map,hp]; rfl,hρ p⟩
   cases callee with
   | builtin b =>
     simp only [opA,builtinA]
     cases b <;> dsimp only <;> first
       | exact fail _
       | skip
     case append =>
       split
       · rename_i t t' s x e1 e2
         rw [e2] at hargs
         simp only [RepL] at hargs
         obtain ⟨v,_,hv,hs,u,_,rfl,hx,rfl⟩:=hargs
         have ea : args.map ρ = #[v,u]:=Array.ext' hv
         have et : ts = #[t,t']:=Array.ext' e1
         have:=(appendS_snd (P:=P) hH hr (dst:=dst) (t:=t) (t':=t') (ty:=type) hs hx).next
         simpa [execOp,resolve,invoke,builtin,ea,et] using this
       · exact fail _
     case min =>
       have:=(mm_snd (P:=P) hH hr (mx:=false) (ts:=ts) (ty:=type) hargs).next
       simpa [execOp,resolve,invoke,builtin] using this
     case max =>
       have:=(mm_snd (P:=P) hH hr (mx:=true) (ts:=ts) (ty:=type) hargs).next
       simpa [execOp,resolve,invoke,builtin] using this
     case len =>
       split
       · rename_i t x e1 e2
         rw [e2] at hargs
         simp only [RepL] at hargs
         obtain ⟨v,_,hv,hx,rfl⟩:=hargs
         have ea : args.map ρ = #[v]:=Array.ext' hv
         have et : ts = #[t]:=Array.ext' e1
         have:=(lenX_snd (P:=P) hH hr (t:=t) (ty:=type) hx).next
         simpa [execOp,resolve,invoke,builtin,ea,et] using this
       · exact fail _
     case clear =>
       split
       · rename_i t x e1 e2
         rw [e2] at hargs
         simp only [RepL] at hargs
         obtain ⟨v,_,hv,hx,rfl⟩:=hargs
         have ea : args.map ρ = #[v]:=Array.ext' hv
         have et : ts = #[t]:=Array.ext' e1
         have:=(clear_snd (P:=P) hH hr (t:=t) (ty:=type) hx).next
         simpa [execOp,resolve,invoke,builtin,ea,et] using this
       · exact fail _
     case cap =>
       split
       · rename_i t x e1 e2
         rw [e2] at hargs
         simp only [RepL] at hargs
         obtain ⟨v,_,hv,hx,rfl⟩:=hargs
         have ea : args.map ρ = #[v]:=Array.ext' hv
         have et : ts = #[t]:=Array.ext' e1
         have:=(cap_snd (P:=P) hH hr (t:=t) (ty:=type) hx).next
         simpa [execOp,resolve,invoke,builtin,ea,et] using this
       · exact fail _
     case copy =>
       split
       · rename_i t t' s x e1 e2
         rw [e2] at hargs
         simp only [RepL] at hargs
         obtain ⟨v,_,hv,hs,u,_,rfl,hx,rfl⟩:=hargs
         have ea : args.map ρ = #[v,u]:=Array.ext' hv
         have et : ts = #[t,t']:=Array.ext' e1
         have:=(copy_snd (P:=P) hH hr (t:=t) (t':=t') (ty:=type) hs hx).next
         simpa [execOp,resolve,invoke,builtin,ea,et] using this
       · exact fail _
   | _=>exact fail _
 | _=>exact fail _
end
section
abbrev SpecFn := List AV → List ABlk → Option (AV × List ABlk)
structure FnC (P : Program) (f : FuncId) (S : SpecFn) : Prop where
 fn : ∃ fn, P.funcs[f]? = some fn ∧ (fn.name == "runtime.NumGoroutine") = false ∧ fn.body.isNone = false
 calls : ∀ (args : List AV) (B : List ABlk) (r : AV) (B' : List ABlk),S args B = some (r,B') → ∀ (E : Env) (vs : Array Value),E.H = (fun i=>B[i]?) → HR E → RepL E args vs.toList →
   Calls P f vs E.w fun e w' => ∃ v E',e = .returned v ∧ E'.w = w' ∧ E'.H = (fun i=>B'[i]?) ∧ HR E' ∧ Step E E' ∧ Rep E' r v
structure ActW where
 f : World → (Value → World → Prop) → Prop
 mono : ∀ w K K',(∀ v w',K v w' → K' v w') → f w K → f w K'
def SndW (E : Env) (H : NL ABlk) (p : AP AV) (A : ActW) : Prop :=
 ∀ out,p.run H = some out → A.f E.w fun v w'=>out.as ∧ ∃ E',E'.w = w' ∧ E'.H = lk out.H ∧ HR E' ∧ Step E E' ∧ Rep E' out.val v
theorem SndW.fail {E : Env} {H : NL ABlk} {A : ActW} : SndW E H .fail A := fun _ h => by simp [AP.run] at h
theorem SndW.get {E : Env} {H : NL ABlk} {A : ActW} {id : Nat} {k : ABlk → AP AV} {b : ABlk} (hb : lk H id = some b) (h : SndW E H (k b) A) : SndW E H (.get id k) A :=
 fun out h'=>by
   simp only [AP.run,hb] at h'
   split at h'
   · rename_i o ho
     simp only [Option.some.injEq] at h'
     subst h'
     exact h o ho
   · cases h'
theorem SndW.put_then {E E1 : Env} {H : NL ABlk} {A : ActW} {id : Nat} {b : ABlk} {p : AP AV} (hw : E1.w = E.w) (hs : Step E E1) (h : SndW E1 (st H id b) p A) : SndW E H (.put id b p) A := fun out ho => by
 simp only [AP.run] at ho
 split at ho
 · rename_i o hr
   simp only [Option.some.injEq] at ho
   subst ho
   have:=h o hr
   rw [hw] at this
   exact A.mono _ _ _ (fun v w' ⟨h1,E',h2,h3,h4,h5,h6⟩=>⟨h1,E',h2,h3,h4,hs.trans h5,h6⟩) this
 · cases ho
theorem frz1_w {E : Env} {H : NL ABlk} (hH : E.H = lk H) (hr : HR E) {x : AV} {v : Value} (hx : Rep E x v) {k : AV → AP AV} {A : ActW}
   (h : ∀ E1 H1 x',E1.w = E.w → E1.H = lk H1 → HR E1 → Step E E1 → RepI E1.w E1.imm x' v → SndW E1 H1 (k x') A) : SndW E H (frz1 x k) A:=by
 unfold frz1
 split
 · rename_i id g off len
   simp only [Rep] at hx
   obtain ⟨blk,oa,len',cap,hb,hle,rfl,hg⟩:=hx
   refine SndW.get (by rw [← hH]; exact hb) ?_
   split
   · rename_i hc
     obtain ⟨g1,g2,g3⟩:=hc
     obtain ⟨hk,rfl,h1,h2,h3⟩:=hg g1
     split
     · rename_i hk2
       obtain ⟨q1,q2⟩:=hr.freeze hb hk2
       refine SndW.put_then (E1:=⟨E.w,upd E.H id (some { blk with kind:=1 }),E.φ,E.cs,E.F⟩) rfl q2 (h ⟨E.w,upd E.H id (some { blk with kind:=1 }),E.φ,E.cs,E.F⟩ _ _ rfl (by rw [lk_st_upd,hH]) q1 q2 ?_)
       exact slice_inl (blk:={ blk with kind:=1 }) q1 (by simp [upd_same]) rfl g2 g3 h1 h2 h3
     · split
       · rename_i hk1
         exact h _ _ _ rfl hH hr (Step.refl E) (slice_inl hr hb hk1 g2 g3 h1 h2 h3)
       · exact SndW.fail
   · exact SndW.fail
 · split
   · rename_i hi
     exact h E H x rfl hH hr (Step.refl E) (isInl_rep hx hi)
   · exact SndW.fail
theorem frzL_w {A : ActW} : ∀ {xs : List AV} {E : Env} {H : NL ABlk} (_ : E.H = lk H) (_ : HR E) {vs : List Value} (_ : RepL E xs vs) {k : List AV → AP AV}
   (_ : ∀ E1 H1 xs',E1.w = E.w → E1.H = lk H1 → HR E1 → Step E E1 → RepIL E1.w E1.imm xs' vs → SndW E1 H1 (k xs') A),SndW E H (frzL xs k) A
 | [],E,H,hH,hr,vs,hx,k,h=>h E H [] rfl hH hr (Step.refl E) (by simpa only [RepL,RepIL] using hx)
 | x :: r,E,H,hH,hr,vs,hx,k,h=>by
   simp only [RepL] at hx
   obtain ⟨v,vs',rfl,h1,h2⟩:=hx
   refine frz1_w hH hr h1 fun E1 H1 x' e1 e2 e3 e4 e5=>?_
   refine frzL_w e2 e3 (RepL.mono e4 _ _ h2) fun E2 H2 r' f1 f2 f3 f4 f5=>?_
   refine h E2 H2 (x' :: r') (f1.trans e1) f2 f3 (e4.trans f4) ?_
   simp only [RepIL]
   exact ⟨v,vs',rfl,RepI.mono f4.inl _ _ e5,f5⟩
theorem frzV_w {E : Env} {H : NL ABlk} (hH : E.H = lk H) (hr : HR E) {x : AV} {v : Value} (hx : Rep E x v) {k : AV → AP AV} {A : ActW}
   (h : ∀ E1 H1 x',E1.w = E.w → E1.H = lk H1 → HR E1 → Step E E1 → RepI E1.w E1.imm x' v → SndW E1 H1 (k x') A) : SndW E H (frzV x k) A:=by
 unfold frzV
 split
 · simp only [Rep] at hx
   obtain ⟨cs,rfl,hc⟩:=hx
   refine frzL_w hH hr hc fun E1 H1 xs' e1 e2 e3 e4 e5=>h E1 H1 _ e1 e2 e3 e4 ?_
   simp only [RepI]; exact ⟨cs,rfl,e5⟩
 · simp only [Rep] at hx
   obtain ⟨cs,rfl,hc⟩:=hx
   refine frzL_w hH hr hc fun E1 H1 xs' e1 e2 e3 e4 e5=>h E1 H1 _ e1 e2 e3 e4 ?_
   simp only [RepI]; exact ⟨cs,rfl,e5⟩
 · simp only [Rep] at hx
   obtain ⟨fs,cs,rfl,h1,h2⟩:=hx
   refine frzL_w hH hr h1 fun E1 H1 xs' e1 e2 e3 e4 e5=>?_
   refine frzL_w e2 e3 (RepL.mono e4 _ _ h2) fun E2 H2 ys' f1 f2 f3 f4 f5=>h E2 H2 _ (f1.trans e1) f2 f3 (e4.trans f4) ?_
   simp only [RepI]; exact ⟨fs,cs,rfl,RepIL.mono f4.inl _ _ e5,f5⟩
 · exact frz1_w hH hr hx h
theorem frzVs_w {A : ActW} : ∀ {xs : List AV} {E : Env} {H : NL ABlk} (_ : E.H = lk H) (_ : HR E) {vs : List Value} (_ : RepL E xs vs) {k : List AV → AP AV}
   (_ : ∀ E1 H1 xs',E1.w = E.w → E1.H = lk H1 → HR E1 → Step E E1 → RepIL E1.w E1.imm xs' vs → SndW E1 H1 (k xs') A),SndW E H (frzVs xs k) A
 | [],E,H,hH,hr,vs,hx,k,h=>h E H [] rfl hH hr (Step.refl E) (by simpa only [RepL,RepIL] using hx)
 | x :: r,E,H,hH,hr,vs,hx,k,h=>by
   simp only [RepL] at hx
   obtain ⟨v,vs',rfl,h1,h2⟩:=hx
   refine frzV_w hH hr h1 fun E1 H1 x' e1 e2 e3 e4 e5=>?_
   refine frzVs_w e2 e3 (RepL.mono e4 _ _ h2) fun E2 H2 r' f1 f2 f3 f4 f5=>?_
   refine h E2 H2 (x' :: r') (f1.trans e1) f2 f3 (e4.trans f4) ?_
   simp only [RepIL]
   exact ⟨v,vs',rfl,RepI.mono f4.inl _ _ e5,f5⟩
def brw1 (x : AV) (k : AV → AP AV) : AP AV :=
 match x with
 | .sl id g off len => .get id fun b =>
   if b.gen = g ∧ b.inl = true ∧ off + len ≤ b.rows.length ∧ (b.kind = 1 ∨ b.kind = 2) then k (.list b.size ((b.rows.drop off).take len)) else .fail
 | x=>if x.isInl then k x else .fail
def brwL : List AV → (List AV → AP AV) → AP AV
 | [],k=>k []
 | x :: r,k=>brw1 x fun x'=>brwL r fun r'=>k (x' :: r')
def brwV (x : AV) (k : AV → AP AV) : AP AV :=
 match x with
 | .agg cs=>brwL cs fun cs'=>k (.agg cs')
 | .tup cs=>brwL cs fun cs'=>k (.tup cs')
 | .fn f a b=>brwL a fun a'=>brwL b fun b'=>k (.fn f a' b')
 | x=>brw1 x k
def brwVs : List AV → (List AV → AP AV) → AP AV
 | [],k=>k []
 | x :: r,k=>brwV x fun x'=>brwVs r fun r'=>k (x' :: r')
def Env.all (E : Env) (b : Nat) : Prop := b < E.w.heap.size
theorem Env.imm_all (E : Env) : ∀ b,E.imm b → E.all b ∧ E.w.heap[b]? = E.w.heap[b]? := fun _ h => ⟨h.1,rfl⟩
theorem brw1_w {E : Env} {H : NL ABlk} (hH : E.H = lk H) (hr : HR E) {x : AV} {v : Value} (hx : Rep E x v) {k : AV → AP AV} {A : ActW}
   (h : ∀ x',RepI E.w E.all x' v → SndW E H (k x') A) : SndW E H (brw1 x k) A:=by
 unfold brw1
 split
 · rename_i id g off len
   simp only [Rep] at hx
   obtain ⟨blk,oa,len',cap,hb,hle,rfl,hg⟩:=hx
   refine SndW.get (by rw [← hH]; exact hb) ?_
   split
   · rename_i hc
     obtain ⟨g1,g2,g3,hk⟩:=hc
     obtain ⟨_,rfl,h1,h2,h3⟩:=hg g1
     refine h _ ?_
     have hlen : ((blk.rows.drop off).take len').length = len':=by rw [List.length_take,List.length_drop]; omega
     simp only [RepI]
     cases oa with
     | none =>
       have hc : cap = 0:=by
         rcases Nat.eq_zero_or_pos cap with h | h
         · exact h
         · cases (h3 h).1
       subst hc
       have : len' = 0:=by omega
       subst this
       exact .inl ⟨rfl,List.eq_nil_of_length_eq_zero hlen⟩
     | some a =>
       refine .inr ⟨a,cap,by rw [hlen],by rw [hlen]; exact h1,h2,fun hn=>?_, ?_⟩
       · have hp : 0 < len':=by rw [← hlen]; exact List.length_pos_iff.2 hn
         obtain ⟨ea,hcs⟩:=h3 (by omega)
         cases ea
         obtain ⟨C,c1,c2,c3,c4,c5,c6⟩:=hr.cells hb hk
         have hcp : 0 < E.cs id:=by have : 0 < (off + cap) * blk.size:=Nat.mul_pos (by omega) c3; omega
         exact ⟨rfl,(hr.nf id blk hb (by omega) hcp).1⟩
       · rcases Nat.eq_zero_or_pos len' with hp | hp
         · have : (blk.rows.drop off).take len' = []:=List.eq_nil_of_length_eq_zero (by rw [hlen]; exact hp)
           rw [this]; simp only [RepRows]
         · obtain ⟨ea,hcs⟩:=h3 (by omega)
           cases ea
           obtain ⟨C,c1,c2,c3,c4,c5,c6⟩:=hr.cells hb hk
           have hcp : 0 < E.cs id:=by have : 0 < (off + cap) * blk.size:=Nat.mul_pos (by omega) c3; omega
           refine block_rows (c1 hcp) c5 fun r row j x q1 q2=>?_
           obtain ⟨u,d1,d2,d3⟩:=c6 r row j x q1 q2
           rw [g2] at d3
           exact ⟨u,d1,d2,RepI.mono E.imm_all _ _ d3⟩
   · exact SndW.fail
 · split
   · rename_i hi
     exact h x (RepI.mono E.imm_all _ _ (isInl_rep hx hi))
   · exact SndW.fail
theorem brwL_w {E : Env} {H : NL ABlk} {A : ActW} (hH : E.H = lk H) (hr : HR E) : ∀ {xs : List AV} {vs : List Value} (_ : RepL E xs vs) {k : List AV → AP AV}
   (_ : ∀ xs',RepIL E.w E.all xs' vs → SndW E H (k xs') A),SndW E H (brwL xs k) A
 | [],vs,hx,k,h=>h [] (by simpa only [RepL,RepIL] using hx)
 | x :: r,vs,hx,k,h=>by
   simp only [RepL] at hx
   obtain ⟨v,vs',rfl,h1,h2⟩:=hx
   refine brw1_w hH hr h1 fun x' e=>brwL_w hH hr h2 fun r' f=>h (x' :: r') ?_
   simp only [RepIL]
   exact ⟨v,vs',rfl,e,f⟩
theorem brwV_w {E : Env} {H : NL ABlk} (hH : E.H = lk H) (hr : HR E) {x : AV} {v : Value} (hx : Rep E x v) {k : AV → AP AV} {A : ActW}
   (h : ∀ x',RepI E.w E.all x' v → SndW E H (k x') A) : SndW E H (brwV x k) A:=by
 unfold brwV
 split
 · simp only [Rep] at hx
   obtain ⟨cs,rfl,hc⟩:=hx
   refine brwL_w hH hr hc fun xs' e=>h _ ?_
   simp only [RepI]; exact ⟨cs,rfl,e⟩
 · simp only [Rep] at hx
   obtain ⟨cs,rfl,hc⟩:=hx
   refine brwL_w hH hr hc fun xs' e=>h _ ?_
   simp only [RepI]; exact ⟨cs,rfl,e⟩
 · simp only [Rep] at hx
   obtain ⟨fs,cs,rfl,h1,h2⟩:=hx
   refine brwL_w hH hr h1 fun xs' e=>brwL_w hH hr h2 fun ys' f=>h _ ?_
   simp only [RepI]; exact ⟨fs,cs,rfl,e,f⟩
 · exact brw1_w hH hr hx h
theorem brwVs_w {E : Env} {H : NL ABlk} {A : ActW} (hH : E.H = lk H) (hr : HR E) : ∀ {xs : List AV} {vs : List Value} (_ : RepL E xs vs) {k : List AV → AP AV}
   (_ : ∀ xs',RepIL E.w E.all xs' vs → SndW E H (k xs') A),SndW E H (brwVs xs k) A
 | [],vs,hx,k,h=>h [] (by simpa only [RepL,RepIL] using hx)
 | x :: r,vs,hx,k,h=>by
   simp only [RepL] at hx
   obtain ⟨v,vs',rfl,h1,h2⟩:=hx
   refine brwV_w hH hr h1 fun x' e=>brwVs_w hH hr h2 fun r' f=>h (x' :: r') ?_
   simp only [RepIL]
   exact ⟨v,vs',rfl,e,f⟩
def AV.flat1 : AV → Bool
 | .bool _ | .int _ _ | .str _ | .nilp | .nils | .nilf | .nilm=>true
 | _=>false
def AV.flat2 : AV → Bool
 | .agg cs=>cs.all AV.flat1
 | x=>x.flat1
def AV.flat : AV → Bool
 | .tup vs=>vs.all AV.flat2
 | x=>x.flat2
theorem flat1_rep {E E' : Env} {x : AV} {v : Value} (h : x.flat1 = true) (hx : Rep E x v) : Rep E' x v := by
 cases x <;> simp [AV.flat1] at h <;> exact hx
theorem flatL_rep {E E' : Env} {p : AV → Bool} (hp : ∀ {x : AV} {v : Value},p x = true → Rep E x v → Rep E' x v) : ∀ {xs : List AV} {vs : List Value},xs.all p = true → RepL E xs vs → RepL E' xs vs
 | [],_,_,h=>h
 | x :: r,vs,ha,h=>by
   simp only [List.all_cons,Bool.and_eq_true] at ha
   simp only [RepL] at h ⊢
   obtain ⟨v,vs',rfl,h1,h2⟩:=h
   exact ⟨v,vs',rfl,hp ha.1 h1,flatL_rep hp ha.2 h2⟩
theorem flat2_rep {E E' : Env} {x : AV} {v : Value} (h : x.flat2 = true) (hx : Rep E x v) : Rep E' x v := by
 unfold AV.flat2 at h
 split at h
 · simp only [Rep] at hx ⊢
   obtain ⟨cs,rfl,hc⟩:=hx
   exact ⟨cs,rfl,flatL_rep flat1_rep h hc⟩
 · exact flat1_rep h hx
theorem flat_rep {E E' : Env} {x : AV} {v : Value} (h : x.flat = true) (hx : Rep E x v) : Rep E' x v := by
 unfold AV.flat at h
 split at h
 · simp only [Rep] at hx ⊢
   obtain ⟨cs,rfl,hc⟩:=hx
   exact ⟨cs,rfl,flatL_rep flat2_rep h hc⟩
 · exact flat2_rep h hx
mutual
def AV.ren (f : Nat → Nat → Option (Nat × Nat)) : AV → AV
 | .ptr i g r o=>match f i g with
   | some (i',g') => .ptr i' g' r o
   | none => .any
 | .sl i g o l=>match f i g with
   | some (i',g') => .sl i' g' o l
   | none => .any
 | .amap i g=>match f i g with
   | some (i',g') => .amap i' g'
   | none => .any
 | .psl i g r o l=>match f i g with
   | some (i',g') => .psl i' g' r o l
   | none => .any
 | .slc i g o l c=>match f i g with
   | some (i',g') => .slc i' g' o l c
   | none => .any
 | .agg cs => .agg (renL f cs)
 | .tup cs => .tup (renL f cs)
 | .fn fn a b => .fn fn (renL f a) (renL f b)
 | .any => .any
 | .bool b => .bool b
 | .int k n => .int k n
 | .str s => .str s
 | .nilp => .nilp
 | .cptr cs => .cptr cs
 | .nils => .nils
 | .list s rows => .list s rows
 | .nilf => .nilf
 | .nilm => .nilm
def renL (f : Nat → Nat → Option (Nat × Nat)) : List AV → List AV
 | []=>[]
 | x :: r=>x.ren f :: renL f r
end
structure RenOK (f : Nat → Nat → Option (Nat × Nat)) (E E' : Env) : Prop where
 w : E'.w = E.w
 imm : ∀ b,E.imm b → E'.imm b
 blk : ∀ i g i' g',f i g = some (i',g') → ∀ blk,E.H i = some blk → blk.gen = g → ∃ blk',E'.H i' = some blk' ∧ blk'.gen = g' ∧ blk'.kind = blk.kind ∧ blk'.size = blk.size ∧ E'.φ i' = E.φ i ∧ E'.cs i' = E.cs i
 cur : ∀ i g i' g',f i g = some (i',g') → ∃ blk,E.H i = some blk ∧ blk.gen = g
mutual
theorem ren_rep {f : Nat → Nat → Option (Nat × Nat)} {E E' : Env} (hf : RenOK f E E') : (x : AV) → (v : Value) → Rep E x v → Rep E' (x.ren f) v
 | .any,_,_=>trivial
 | .bool _,_,h=>h
 | .int _ _,_,h=>h
 | .str _,_,h=>h
 | .nilp,_,h=>h
 | .ptr i g r o,v,h=>by
   simp only [AV.ren]
   cases he : f i g with
   | none=>trivial
   | some p =>
     obtain ⟨i',g'⟩:=p
     obtain ⟨blk0,hb0,hg0⟩:=hf.cur i g i' g' he
     simp only [Rep] at h ⊢
     obtain ⟨blk,a,hb,hle,rfl,hg⟩:=h
     rw [hb0] at hb; cases hb
     obtain ⟨blk',q1,q2,q3,q4,q5,q6⟩:=hf.blk i g i' g' he blk0 hb0 hg0
     obtain ⟨k1,rfl⟩:=hg hg0
     exact ⟨blk',_,q1,by omega,rfl,fun _=>⟨by omega,by rw [q5,q4]⟩⟩
 | .cptr cs,v,h=>RepI.mono (fun b hb=>⟨hf.imm b hb,by rw [hf.w]⟩) (.cptr cs) v h
 | .nils,_,h=>h
 | .sl i g o l,v,h=>by
   simp only [AV.ren]
   cases he : f i g with
   | none=>trivial
   | some p =>
     obtain ⟨i',g'⟩:=p
     obtain ⟨blk0,hb0,hg0⟩:=hf.cur i g i' g' he
     simp only [Rep] at h ⊢
     obtain ⟨blk,oa,len',cap,hb,hle,rfl,hg⟩:=h
     rw [hb0] at hb; cases hb
     obtain ⟨blk',q1,q2,q3,q4,q5,q6⟩:=hf.blk i g i' g' he blk0 hb0 hg0
     obtain ⟨k1,k2,k3,k4,k5⟩:=hg hg0
     exact ⟨blk',oa,len',cap,q1,by omega,rfl,fun _=>⟨by omega,k2,k3,k4,by rw [q5,q4,q6]; exact k5⟩⟩
 | .list s rows,v,h=>RepI.mono (fun b hb=>⟨hf.imm b hb,by rw [hf.w]⟩) (.list s rows) v h
 | .nilf,_,h=>h
 | .fn fn a b,v,h=>by
   simp only [AV.ren,Rep] at h ⊢
   obtain ⟨fs,cs,hv,h1,h2⟩:=h
   exact ⟨fs,cs,hv,renL_rep hf _ _ h1,renL_rep hf _ _ h2⟩
 | .nilm,_,h=>h
 | .amap i g,v,h=>by
   simp only [AV.ren]
   cases he : f i g with
   | none=>trivial
   | some p =>
     obtain ⟨i',g'⟩:=p
     obtain ⟨blk0,hb0,hg0⟩:=hf.cur i g i' g' he
     simp only [Rep] at h ⊢
     obtain ⟨blk,r,hb,hle,rfl,hg⟩:=h
     rw [hb0] at hb; cases hb
     obtain ⟨blk',q1,q2,q3,q4,q5,q6⟩:=hf.blk i g i' g' he blk0 hb0 hg0
     obtain ⟨k1,rfl⟩:=hg hg0
     exact ⟨blk',_,q1,by omega,rfl,fun _=>⟨by omega,by rw [q5]⟩⟩
 | .slc i g o l c,v,h=>by
   simp only [AV.ren]
   cases he : f i g with
   | none=>trivial
   | some p =>
     obtain ⟨i',g'⟩:=p
     obtain ⟨blk0,hb0,hg0⟩:=hf.cur i g i' g' he
     simp only [Rep] at h ⊢
     obtain ⟨blk,oa,len',cap,hb,hle,rfl,hg,hst⟩:=h
     rw [hb0] at hb; cases hb
     obtain ⟨blk',q1,q2,q3,q4,q5,q6⟩:=hf.blk i g i' g' he blk0 hb0 hg0
     obtain ⟨k1,k2,k2',k3,k4,k5⟩:=hg hg0
     exact ⟨blk',oa,len',cap,q1,by omega,rfl,fun _=>⟨by omega,k2,k2',k3,k4,by rw [q5,q4,q6]; exact k5⟩,hst⟩
 | .psl i g r o l,v,h=>by
   simp only [AV.ren]
   cases he : f i g with
   | none=>trivial
   | some p =>
     obtain ⟨i',g'⟩:=p
     obtain ⟨blk0,hb0,hg0⟩:=hf.cur i g i' g' he
     simp only [Rep] at h ⊢
     obtain ⟨blk,a,cap,hb,hle,rfl,hg⟩:=h
     rw [hb0] at hb; cases hb
     obtain ⟨blk',q1,q2,q3,q4,q5,q6⟩:=hf.blk i g i' g' he blk0 hb0 hg0
     obtain ⟨k1,rfl⟩:=hg hg0
     exact ⟨blk',_,cap,q1,by omega,rfl,fun _=>⟨by omega,by rw [q5,q4]⟩⟩
 | .agg cs,v,h=>by
   simp only [AV.ren,Rep] at h ⊢
   obtain ⟨us,hv,h1⟩:=h
   exact ⟨us,hv,renL_rep hf _ _ h1⟩
 | .tup cs,v,h=>by
   simp only [AV.ren,Rep] at h ⊢
   obtain ⟨us,hv,h1⟩:=h
   exact ⟨us,hv,renL_rep hf _ _ h1⟩
theorem renL_rep {f : Nat → Nat → Option (Nat × Nat)} {E E' : Env} (hf : RenOK f E E') : (xs : List AV) → (vs : List Value) → RepL E xs vs → RepL E' (renL f xs) vs
 | [],_,h=>h
 | x :: r,vs,h=>by
   simp only [renL,RepL] at h ⊢
   obtain ⟨v,vs',hv,h1,h2⟩:=h
   exact ⟨v,vs',hv,ren_rep hf x v h1,renL_rep hf r vs' h2⟩
end
end
section
def genOf (H : NL ABlk) (id : Nat) : Nat := ((lk H id).getD {}).gen + 1
def instH (base : Nat) : Nat → List ABlk → NL ABlk → NL ABlk
 | _,[],H=>H
 | j,b :: r,H=>instH base (j + 1) r (st H (base + j) { b with gen:=genOf H (base + j) })
theorem genOf_st_other {H : NL ABlk} {i k : Nat} {b : ABlk} (h : i ≠ k) : genOf (st H i b) k = genOf H k := by
 simp [genOf,lk_st,h]
theorem lk_instH (base : Nat) : ∀ (news : List ABlk) (j : Nat) (H : NL ABlk) (id : Nat),lk (instH base j news H) id = if base + j ≤ id ∧ id < base + j + news.length then (news[id - (base + j)]?).map (fun b => { b with gen := genOf H id }) else lk H id
 | [],j,H,id=>by
   simp only [instH,List.length_nil,Nat.add_zero]
   rw [if_neg (by omega)]
 | b :: r,j,H,id=>by
   simp only [instH]
   rw [lk_instH base r (j + 1)]
   by_cases h1 : id = base + j
   · subst h1
     rw [if_neg (by omega),if_pos (by simp only [List.length_cons]; omega),lk_st,if_pos rfl]
     simp
   · by_cases h2 : base + (j + 1) ≤ id ∧ id < base + (j + 1) + r.length
     · rw [if_pos h2,if_pos (by simp only [List.length_cons]; omega)]
       rw [show id - (base + j) = (id - (base + (j + 1))) + 1 from by omega,List.getElem?_cons_succ,genOf_st_other (fun e=>h1 e.symm)]
     · rw [if_neg h2,if_neg (by simp only [List.length_cons]; omega),lk_st,if_neg (fun e=>h1 e.symm)]
def instA (base : Nat) : Nat → List ABlk → List Nat → (List Nat → AP AV) → AP AV
 | _,[],gs,k=>k gs.reverse
 | j,b :: r,gs,k => .get (base + j) fun old => .put (base + j) { b with gen:=old.gen + 1 } (instA base (j + 1) r ((old.gen + 1) :: gs) k)
def gensOf (base : Nat) : Nat → List ABlk → NL ABlk → List Nat
 | _,[],_=>[]
 | j,b :: r,H=>genOf H (base + j) :: gensOf base (j + 1) r (st H (base + j) { b with gen:=genOf H (base + j) })
theorem gensOf_get (base : Nat) : ∀ (news : List ABlk) (j : Nat) (H : NL ABlk) (t : Nat),t < news.length → (gensOf base j news H)[t]? = some (genOf H (base + j + t))
 | [],_,_,_,h=>by simp at h
 | b :: r,j,H,t,h=>by
   cases t with
   | zero=>simp [gensOf]
   | succ t =>
     simp only [gensOf,List.getElem?_cons_succ]
     rw [gensOf_get base r (j + 1) _ t (by simpa using h),genOf_st_other (by omega)]
     congr 2; omega
theorem instA_run (base : Nat) {k : List Nat → AP AV} : ∀ (news : List ABlk) (j : Nat) (gs : List Nat) (H : NL ABlk) (out : Out AV),(instA base j news gs k).run H = some out →
   ∃ o,(k (gs.reverse ++ gensOf base j news H)).run (instH base j news H) = some o ∧ out.val = o.val ∧ out.H = o.H ∧ out.as = o.as
 | [],j,gs,H,out,h=>⟨out,by simpa [gensOf,instH,instA] using h,rfl,rfl,rfl⟩
 | b :: r,j,gs,H,out,h=>by
   simp only [instA,AP.run] at h
   have key : ∀ old : ABlk,old = (lk H (base + j)).getD {} → ∀ o1,(instA base (j + 1) r ((old.gen + 1) :: gs) k).run (st H (base + j) { b with gen:=old.gen + 1 }) = some o1 →
       ∃ o,(k (gs.reverse ++ gensOf base j (b :: r) H)).run (instH base j (b :: r) H) = some o ∧ o1.val = o.val ∧ o1.H = o.H ∧ o1.as = o.as:=by
     intro old ho o1 h1
     obtain ⟨o,q1,q2,q3,q4⟩:=instA_run base r (j + 1) _ _ o1 h1
     refine ⟨o, ?_,q2,q3,q4⟩
     have hg : old.gen + 1 = genOf H (base + j):=by rw [ho]; rfl
     rw [hg] at q1
     simpa [gensOf,instH] using q1
   cases hb : lk H (base + j) with
   | none =>
     simp only [hb] at h
     split at h
     · rename_i o2 ho2
       split at ho2
       · rename_i o1 ho1
         obtain ⟨o,q1,q2,q3,q4⟩:=key {} (by simp [hb]) o1 ho1
         simp only [Option.some.injEq] at h ho2
         subst h; subst ho2
         exact ⟨o,q1,q2,q3,q4⟩
       · cases ho2
     · cases h
   | some old =>
     simp only [hb] at h
     split at h
     · rename_i o2 ho2
       split at ho2
       · rename_i o1 ho1
         obtain ⟨o,q1,q2,q3,q4⟩:=key old (by simp [hb]) o1 ho1
         simp only [Option.some.injEq] at h ho2
         subst h; subst ho2
         exact ⟨o,q1,q2,q3,q4⟩
       · cases ho2
     · cases h
def newF (base : Nat) (news : List ABlk) (gs : List Nat) (i g : Nat) : Option (Nat × Nat) :=
 match news[i]?,gs[i]? with
 | some b,some g'=>if b.gen = g then some (base + i,g') else none
 | _,_=>none
structure Spec where
 mode : Nat
 fn : SpecFn
def callA (specs : FuncId → Option Spec) (dst : Nat) (f : FuncId) (args : List AV) : AP AV :=
 match specs f with
 | none => .fail
 | some ⟨0,S⟩=>brwVs args fun args'=>match S args' [] with
   | some (r,[])=>if r.flat then .ret r else .fail
   | _ => .fail
 | some ⟨_,S⟩=>frzVs args fun args'=>match S args' [] with
   | some (r,news)=>if news.all (fun b=>b.inl && b.kind == 2) then
       instA (newId dst) 0 news [] fun gs => .ret (r.ren (newF (newId dst) news gs))
     else .fail
   | none => .fail
def CallAct (P : Program) (f : FuncId) (vs : Array Value) : ActW where
 f w K:=Calls P f vs w fun e w' => ∃ v,e = .returned v ∧ K v w'
 mono _ _ _ h hc:=hc.mono fun _ w' ⟨v,he,hk⟩=>⟨v,he,h v w' hk⟩
def env0 (w : World) (F : Nat → Prop) : Env := ⟨w,fun _ => none,fun _ => 0,fun _ => 0,F⟩
theorem HR.env0 {w : World} {F : Nat → Prop} (h : ∀ b,F b → b < w.heap.size) : HR (env0 w F) :=
 ⟨fun _ _ h=>by simp [Abs.env0] at h,fun _ _ _ _ h=>by simp [Abs.env0] at h,fun _ _ h=>by simp [Abs.env0] at h,h⟩
theorem after_call {E Ec : Env} (hr : HR E) {F0 : Nat → Prop} (hs : Step (env0 E.w F0) Ec) :
   HR ⟨Ec.w,E.H,E.φ,E.cs,E.F⟩ ∧ Step E ⟨Ec.w,E.H,E.φ,E.cs,E.F⟩:=by
 have hold : ∀ b,b < E.w.heap.size → Ec.w.heap[b]? = E.w.heap[b]?:=fun b hb=>hs.old b hb (fun id blk h=>by simp [env0] at h)
 have hsz : E.w.heap.size ≤ Ec.w.heap.size:=hs.size
 have hst : Step E ⟨Ec.w,E.H,E.φ,E.cs,E.F⟩ :=
   ⟨hsz,fun b hb _=>hold b hb,rfl,fun _ blk h=>⟨blk,h,Nat.le_refl _,fun _ _=>⟨.inl rfl,rfl,rfl,rfl,rfl⟩⟩,fun _ blk h hk hc => .inl ⟨_,blk,h,hk,hc,rfl, .inl rfl⟩,hs.kept⟩
 exact ⟨⟨fun id b hb=>BlkOK.mono hst rfl rfl (fun hz hc=>hold _ (hr.nf id b hb hz hc).1) (hr.blk id b hb),hr.inj,fun id b hb hz hc=>⟨Nat.lt_of_lt_of_le (hr.nf id b hb hz hc).1 hsz,(hr.nf id b hb hz hc).2⟩,fun b hf=>Nat.lt_of_lt_of_le (hr.fb b hf) hsz⟩,hst⟩
def keepOut (E : Env) (b : Nat) : Prop := E.F b ∨ (b < E.w.heap.size ∧ ∃ id blk,E.H id = some blk ∧ 2 ≤ blk.kind ∧ 0 < E.cs id ∧ E.φ id = b)
theorem keepOut_imm {E : Env} {b : Nat} (h : E.imm b) : (env0 E.w (keepOut E)).imm b := by
 refine ⟨h.1,fun hk=>?_,fun id blk hb=>by simp [env0] at hb⟩
 rcases hk with hk | ⟨_,id,blk,h1,h2,h3,h4⟩
 · exact h.2.1 hk
 · exact h.2.2 id blk h1 h2 h3 h4
theorem adopt {E Ec : Env} (hr : HR E) {H : NL ABlk} (hH : E.H = lk H) {news : List ABlk} (hn : Ec.H = fun i => news[i]?) (hc : HR Ec) (hs : Step (env0 E.w (keepOut E)) Ec) (hall : ∀ (i : Nat) (b : ABlk),news[i]? = some b → b.inl = true ∧ b.kind = 2) (base : Nat) :
   ∃ E',E'.w = Ec.w ∧ E'.H = lk (instH base 0 news H) ∧ HR E' ∧ Step E E' ∧ RenOK (newF base news (gensOf base 0 news H)) Ec E':=by
 have hold : ∀ b,b < E.w.heap.size → Ec.w.heap[b]? = E.w.heap[b]?:=fun b hb=>hs.old b hb (fun id blk h=>by simp [env0] at h)
 have hsz : E.w.heap.size ≤ Ec.w.heap.size:=hs.size
 let φ' : Nat → Nat:=fun id=>if base ≤ id ∧ id < base + news.length then Ec.φ (id - base) else E.φ id
 let cs' : Nat → Nat:=fun id=>if base ≤ id ∧ id < base + news.length then Ec.cs (id - base) else E.cs id
 have hlk : ∀ id,lk (instH base 0 news H) id = if base ≤ id ∧ id < base + news.length then (news[id - base]?).map (fun b=>{ b with gen:=genOf H id }) else lk H id:=by
   intro id; have:=lk_instH base news 0 H id; simpa using this
 -- a block of the new store
 have hnew : ∀ id b,lk (instH base 0 news H) id = some b → (base ≤ id ∧ id < base + news.length ∧ ∃ b0,news[id - base]? = some b0 ∧ b = { b0 with gen:=genOf H id }) ∨ (¬ (base ≤ id ∧ id < base + news.length) ∧ E.H id = some b):=by
   intro id b h
   rw [hlk] at h
   split at h
   · rename_i hin
     simp only [Option.map_eq_some_iff] at h
     obtain ⟨b0,h1,h2⟩:=h
     exact .inl ⟨hin.1,hin.2,b0,h1,h2.symm⟩
   · rename_i hin
     exact .inr ⟨hin,by rw [hH]; exact h⟩
 have hfresh : ∀ i b0,news[i]? = some b0 → 0 < Ec.cs i → E.w.heap.size ≤ Ec.φ i ∧ Ec.φ i < Ec.w.heap.size:=by
   intro i b0 h hcs
   have hk:=hall i b0 h
   refine ⟨?_,(hc.nf i b0 (by rw [hn]; exact h) (by omega) hcs).1⟩
   rcases hs.live i b0 (by rw [hn]; exact h) (by omega) hcs with ⟨_,blk,hb,_⟩ | hge
   · simp [env0] at hb
   · exact hge
 have hst : Step E ⟨Ec.w,lk (instH base 0 news H), φ',cs',E.F⟩:=by
   refine ⟨hsz,fun b hb _=>hold b hb,rfl,fun id blk hb=>?_,fun id b hb hk hcs=>?_,hs.kept⟩
   · by_cases hin : base ≤ id ∧ id < base + news.length
     · obtain ⟨b0,hb0⟩ : ∃ b0,news[id - base]? = some b0:=⟨_,List.getElem?_eq_getElem (by omega)⟩
       have hg : genOf H id = blk.gen + 1:=by simp [genOf, ← hH,hb]
       exact ⟨{ b0 with gen:=genOf H id },by simp only; rw [hlk,if_pos hin,hb0]; rfl,by simp only; omega,fun e=>by simp only at e; omega⟩
     · exact ⟨blk,by simp only; rw [hlk,if_neg hin, ← hH]; exact hb,Nat.le_refl _,fun _ _=>⟨.inl rfl,rfl,rfl,if_neg hin,if_neg hin⟩⟩
   · rcases hnew id b hb with ⟨h1,h2,b0,h3,h4⟩ | ⟨h1,h2⟩
     · right
       have hcs' : 0 < Ec.cs (id - base):=by simpa [cs',h1,h2] using hcs
       have:=(hfresh _ b0 h3 hcs').1
       simpa [φ',h1,h2] using this
     · left
       exact ⟨id,b,h2,hk,by simpa [cs',h1] using hcs,if_neg h1, .inl rfl⟩
 have himm : ∀ b,Ec.imm b → (Env.mk Ec.w (lk (instH base 0 news H)) φ' cs' E.F).imm b:=by
   intro b hb
   have hF : ¬ keepOut E b:=by have:=hb.2.1; rw [hs.fo] at this; exact this
   refine ⟨hb.1,fun hf=>hF (.inl hf),fun id blk hbk hk hcs he=>?_⟩
   rcases hnew id blk hbk with ⟨h1,h2,b0,h3,h4⟩ | ⟨h1,h2⟩
   · have hcs' : 0 < Ec.cs (id - base):=by simpa [cs',h1,h2] using hcs
     have he' : Ec.φ (id - base) = b:=by simpa [φ',h1,h2] using he
     exact hb.2.2 (id - base) b0 (by rw [hn]; exact h3) (by have:=hall _ b0 h3; omega) hcs' he'
   · have hcs' : 0 < E.cs id:=by simpa [cs',h1] using hcs
     have he' : E.φ id = b:=by simpa [φ',h1] using he
     refine hF (.inr ⟨?_,id,blk,h2,hk,hcs',he'⟩)
     have:=(hr.nf id blk h2 (by omega) hcs').1
     omega
 refine ⟨⟨Ec.w,lk (instH base 0 news H), φ',cs',E.F⟩,rfl,rfl,⟨fun id b hb=>?_,fun i j bi bj hi hj ki kj ci cj hne=>?_,fun id b hb hk hcs=>?_,fun b hf=>Nat.lt_of_lt_of_le (hr.fb b hf) hsz⟩,hst,⟨rfl,himm,fun i g i' g' he blk hb hg=>?_,fun i g i' g' he=>?_⟩⟩
 · rcases hnew id b hb with ⟨h1,h2,b0,h3,rfl⟩ | ⟨h1,h2⟩
   · have hk:=hall _ b0 h3
     obtain ⟨C,c1,c2,c3,c4,c5,c6⟩:=hc.cells (id:=id - base) (blk:=b0) (by rw [hn]; exact h3) (.inr hk.2)
     have e1 : φ' id = Ec.φ (id - base):=if_pos ⟨h1,h2⟩
     have e2 : cs' id = Ec.cs (id - base):=if_pos ⟨h1,h2⟩
     refine BlkOK.mk_cells (.inr hk.2) ⟨C,fun hp=>by simp only [e1]; exact c1 (by simpa only [e2] using hp),by simp only [e2]; exact c2,c3,c4,c5,fun r row j x q1 q2=>?_⟩
     obtain ⟨u,d1,d2,d3⟩:=c6 r row j x q1 q2
     rw [hk.1] at d3
     refine ⟨u,d1,d2, ?_⟩
     show CellR _ b0.inl x u
     rw [hk.1]
     exact RepI.mono (fun b hb=>⟨himm b hb,rfl⟩) _ _ d3
   · exact BlkOK.mono hst (if_neg h1) (if_neg h1) (fun hz hcs=>hold _ (hr.nf id b h2 hz hcs).1) (hr.blk id b h2)
 · rcases hnew i bi hi with ⟨a1,a2,b0,a3,a4⟩ | ⟨a1,a2⟩ <;> rcases hnew j bj hj with ⟨d1,d2,b1,d3,d4⟩ | ⟨d1,d2⟩
   · have ci' : 0 < Ec.cs (i - base):=by simpa [cs',a1,a2] using ci
     have cj' : 0 < Ec.cs (j - base):=by simpa [cs',d1,d2] using cj
     have:=hc.inj (i - base) (j - base) b0 b1 (by rw [hn]; exact a3) (by rw [hn]; exact d3) (by have:=hall _ b0 a3; omega) (by have:=hall _ b1 d3; omega) ci' cj' (by omega)
     simpa [φ',a1,a2,d1,d2] using this
   · have ci' : 0 < Ec.cs (i - base):=by simpa [cs',a1,a2] using ci
     have cj' : 0 < E.cs j:=by simpa [cs',d1] using cj
     have h1:=(hfresh _ b0 a3 ci').1
     have h2:=(hr.nf j bj d2 kj cj').1
     have e1 : φ' i = Ec.φ (i - base):=if_pos ⟨a1,a2⟩
     have e2 : φ' j = E.φ j:=if_neg d1
     simp only [e1,e2]; omega
   · have ci' : 0 < E.cs i:=by simpa [cs',a1] using ci
     have cj' : 0 < Ec.cs (j - base):=by simpa [cs',d1,d2] using cj
     have h1:=(hfresh _ b1 d3 cj').1
     have h2:=(hr.nf i bi a2 ki ci').1
     have e1 : φ' j = Ec.φ (j - base):=if_pos ⟨d1,d2⟩
     have e2 : φ' i = E.φ i:=if_neg a1
     simp only [e1,e2]; omega
   · have:=hr.inj i j bi bj a2 d2 ki kj (by simpa [cs',a1] using ci) (by simpa [cs',d1] using cj) hne
     simpa [φ',a1,d1] using this
 · rcases hnew id b hb with ⟨h1,h2,b0,h3,h4⟩ | ⟨h1,h2⟩
   · have hcs' : 0 < Ec.cs (id - base):=by simpa [cs',h1,h2] using hcs
     have hf:=hfresh _ b0 h3 hcs'
     have e1 : φ' id = Ec.φ (id - base):=if_pos ⟨h1,h2⟩
     simp only [e1]
     exact ⟨hf.2,fun h=>by have:=hr.fb _ h; omega⟩
   · have hcs' : 0 < E.cs id:=by simpa [cs',h1] using hcs
     have:=hr.nf id b h2 hk hcs'
     have e1 : φ' id = E.φ id:=if_neg h1
     simp only [e1]
     exact ⟨by omega,this.2⟩
 · simp only [newF] at he
   split at he
   · rename_i b0 gg hb0 hgg
     split at he
     · simp only [Option.some.injEq,Prod.mk.injEq] at he
       obtain ⟨rfl,rfl⟩:=he
       have hlt : i < news.length:=(List.getElem?_eq_some_iff.1 hb0).1
       have hin : base ≤ base + i ∧ base + i < base + news.length:=by omega
       rw [hn] at hb
       simp only at hb
       rw [hb0] at hb; cases hb
       have hg2:=gensOf_get base news 0 H i hlt
       rw [hgg] at hg2
       simp only [Nat.add_zero,Option.some.injEq] at hg2
       refine ⟨{ blk with gen:=genOf H (base + i) }, ?_,hg2.symm,rfl,rfl, ?_, ?_⟩
       · simp only; rw [hlk,if_pos hin]; simp [hb0]
       · simp [φ',hlt]
       · simp [cs',hlt]
     · cases he
   · cases he
 · simp only [newF] at he
   split at he
   · rename_i b0 gg hb0 hgg
     split at he
     · rename_i hgen
       exact ⟨b0,by rw [hn]; exact hb0,hgen⟩
     · cases he
   · cases he
theorem call_w {P : Program} {specs : FuncId → Option Spec} (hsp : ∀ f s,specs f = some s → FnC P f s.fn) {E : Env} {H : NL ABlk} (hH : E.H = lk H) (hr : HR E) {dst : Nat} {f : FuncId} {args : List AV} {vs : Array Value} (hx : RepL E args vs.toList) :
   SndW E H (callA specs dst f args) (CallAct P f vs):=by
 unfold callA
 split
 · exact SndW.fail
 · rename_i S hs
   have hf:=hsp f _ hs
   refine brwVs_w hH hr hx fun args' hargs=>?_
   split
   · rename_i r hS
     split
     · rename_i hflat
       intro out ho
       simp only [AP.run,Option.some.injEq] at ho
       subst ho
       have hE0 : (env0 E.w (fun _=>False)).imm = E.all:=by
         funext b; simp [Env.imm,env0,Env.all]
       have hargs' : RepL (env0 E.w (fun _=>False)) args' vs.toList:=RepIL.rep _ _ (by rw [hE0]; exact hargs)
       have:=hf.calls args' [] r [] hS (env0 E.w (fun _=>False)) vs (by funext i; simp [env0]) (HR.env0 (fun b h=>h.elim)) hargs'
       refine this.mono fun e w' ⟨v,Ec,h1,h2,h3,h4,h5,h6⟩=>⟨v,h1,trivial, ?_⟩
       obtain ⟨q1,q2⟩:=after_call hr h5
       exact ⟨⟨Ec.w,E.H,E.φ,E.cs,E.F⟩,h2,hH,q1,q2,flat_rep hflat h6⟩
     · exact SndW.fail
   · exact SndW.fail
 · rename_i S hs
   have hf:=hsp f _ hs
   refine frzVs_w hH hr hx fun E1 H1 args' e1 e2 e3 e4 e5=>?_
   split
   · rename_i r news hS
     split
     · rename_i hall
       have hall' : ∀ (i : Nat) (b : ABlk),news[i]? = some b → b.inl = true ∧ b.kind = 2:=fun i b hb=>by
         have:=List.all_eq_true.1 hall b (List.mem_of_getElem? hb)
         simpa using this
       intro out ho
       obtain ⟨o,q1,q2,q3,q4⟩:=instA_run _ _ _ _ _ _ ho
       simp only [AP.run,Option.some.injEq] at q1
       subst q1
       simp only at q2 q3 q4
       have hargs' : RepL (env0 E1.w (keepOut E1)) args' vs.toList:=RepIL.rep _ _ (RepIL.mono (fun b hb=>⟨keepOut_imm hb,rfl⟩) _ _ e5)
       have:=hf.calls args' [] r news hS (env0 E1.w (keepOut E1)) vs (by funext i; simp [env0]) (HR.env0 (fun b h=>by
         rcases h with h | h
         · exact e3.fb b h
         · exact h.1)) hargs'
       refine this.mono fun e w' ⟨v,Ec,h1,h2,h3,h4,h5,h6⟩=>⟨v,h1,by rw [q4]; trivial, ?_⟩
       obtain ⟨E',g1,g2,g3,g4,g5⟩:=adopt e3 e2 h3 h4 h5 hall' (newId dst)
       refine ⟨E',by rw [g1,h2],by rw [g2,q3],g3,g4, ?_⟩
       rw [q2]
       have:=ren_rep g5 r v h6
       simpa using this
     · exact SndW.fail
   · exact SndW.fail
end
end Go.Abs
namespace Go.Abs
open Go
set_option linter.unusedVariables false
set_option linter.unusedSimpArgs false
section
def renB (f : Nat → Nat → Option (Nat × Nat)) (g : Nat) (b : ABlk) : ABlk :=
 { b with gen:=g,rows:=if b.inl = true ∧ b.kind ≠ 3 then b.rows else b.rows.map (renL f) }
theorem renL_length {f : Nat → Nat → Option (Nat × Nat)} : ∀ (l : List AV),(renL f l).length = l.length
 | []=>rfl
 | _ :: r=>by simp [renL,renL_length r]
theorem renL_get {f : Nat → Nat → Option (Nat × Nat)} : ∀ (l : List AV) (j : Nat),(renL f l)[j]? = (l[j]?).map (·.ren f)
 | [],j=>by simp [renL]
 | x :: r,0=>by simp [renL]
 | x :: r,j + 1=>by simp [renL,renL_get r j]
theorem BlkOK.ren {f : Nat → Nat → Option (Nat × Nat)} {E E' : Env} (hf : RenOK f E E') {i i' g' : Nat} {b : ABlk} (hφ : E'.φ i' = E.φ i) (hcs : E'.cs i' = E.cs i) (h : BlkOK E i b) : BlkOK E' i' (renB f g' b) := by
 unfold BlkOK at h ⊢
 have hk : (renB f g' b).kind = b.kind:=rfl
 rw [hk,hφ,hcs,hf.w]
 have cells : (hc : b.kind = 1 ∨ b.kind = 2) → (∃ C : Array Value,(0 < E.cs i → E.w.heap[E.φ i]? = some (.cells C b.elem (0,0))) ∧ C.size = E.cs i ∧ 0 < b.size ∧ b.rows.length * b.size ≤ C.size ∧
     (∀ (r : Nat) (row : List AV),b.rows[r]? = some row → row.length = b.size) ∧
     ∀ (r : Nat) (row : List AV) (j : Nat) (x : AV),b.rows[r]? = some row → row[j]? = some x → ∃ u,C[r * b.size + j]? = some u ∧ u.oneCell' = true ∧ CellR E b.inl x u) →
     (∃ C : Array Value,(0 < E.cs i → E.w.heap[E.φ i]? = some (.cells C b.elem (0,0))) ∧ C.size = E.cs i ∧ 0 < b.size ∧ (renB f g' b).rows.length * b.size ≤ C.size ∧
     (∀ (r : Nat) (row : List AV),(renB f g' b).rows[r]? = some row → row.length = b.size) ∧
     ∀ (r : Nat) (row : List AV) (j : Nat) (x : AV),(renB f g' b).rows[r]? = some row → row[j]? = some x → ∃ u,C[r * b.size + j]? = some u ∧ u.oneCell' = true ∧ CellR E' b.inl x u):=by
   rintro hc ⟨C,a1,a2,a3,a4,a5,a6⟩
   by_cases hi : b.inl = true
   · have hr : (renB f g' b).rows = b.rows:=if_pos ⟨hi,by omega⟩
     rw [hr]
     refine ⟨C,a1,a2,a3,a4,a5,fun r row j x h1 h2=>?_⟩
     obtain ⟨u,b1,b2,b3⟩:=a6 r row j x h1 h2
     refine ⟨u,b1,b2, ?_⟩
     rw [hi] at b3 ⊢
     exact RepI.mono (fun b hb=>⟨hf.imm b hb,by rw [hf.w]⟩) _ _ b3
   · have hr : (renB f g' b).rows = b.rows.map (renL f):=if_neg (fun hh=>hi hh.1)
     have hi' : b.inl = false:=by simpa using hi
     rw [hr]
     refine ⟨C,a1,a2,a3,by simpa using a4,fun r row h1=>?_,fun r row j x h1 h2=>?_⟩
     · simp only [List.getElem?_map,Option.map_eq_some_iff] at h1
       obtain ⟨row0,h1,rfl⟩:=h1
       rw [renL_length]
       exact a5 r row0 h1
     · simp only [List.getElem?_map,Option.map_eq_some_iff] at h1
       obtain ⟨row0,h1,rfl⟩:=h1
       simp only [renL_get,Option.map_eq_some_iff] at h2
       obtain ⟨x0,h2,rfl⟩:=h2
       obtain ⟨u,b1,b2,b3⟩:=a6 r row0 j x0 h1 h2
       refine ⟨u,b1,b2, ?_⟩
       rw [hi'] at b3 ⊢
       exact ren_rep hf _ _ b3
 split <;> rename_i hkk <;> simp only [hkk] at h
 · trivial
 · exact cells (.inl hkk) h
 · exact cells (.inr hkk) h
 · obtain ⟨hp,es,cl,a1,a2,a2',a3,a4⟩:=h
   have hr : (renB f g' b).rows = b.rows.map (renL f):=if_neg (fun hh=>hh.2 hkk)
   rw [hr]
   refine ⟨hp,es,cl,a1,a2,a2',by simpa using a3,fun r row h1=>?_⟩
   simp only [List.getElem?_map,Option.map_eq_some_iff] at h1
   obtain ⟨row0,h1,rfl⟩:=h1
   obtain ⟨k,v,e,b1,b2,b3,b4⟩:=a4 r row0 h1
   subst b1
   exact ⟨k.ren f,v.ren f,e,by simp [renL],b2,ren_rep hf _ _ b3,ren_rep hf _ _ b4⟩
def fF (L : List (Nat × ABlk)) (i g : Nat) : Option (Nat × Nat) :=
 match L.findIdx? (fun p=>p.1 == i) with
 | some k=>match L[k]? with
   | some p=>if p.2.gen = g then some (k,0) else none
   | none=>none
 | none=>none
def handB (L : List (Nat × ABlk)) : List ABlk := L.map fun p => renB (fF L) 0 p.2
def keepB (E : Env) (L : List (Nat × ABlk)) (b : Nat) : Prop := E.F b ∨ (b < E.w.heap.size ∧ ∃ id blk,E.H id = some blk ∧ 2 ≤ blk.kind ∧ 0 < E.cs id ∧ E.φ id = b ∧ ∀ p ∈ L,p.1 ≠ id)
def envB (E : Env) (L : List (Nat × ABlk)) : Env :=
 ⟨E.w,fun j=>(handB L)[j]?,fun j=>E.φ ((L[j]?).map (·.1) |>.getD 0),fun j=>E.cs ((L[j]?).map (·.1) |>.getD 0),keepB E L⟩
theorem fF_some {L : List (Nat × ABlk)} {i g i' g' : Nat} (h : fF L i g = some (i',g')) : ∃ b,L[i']? = some (i,b) ∧ b.gen = g ∧ g' = 0 := by
 unfold fF at h
 split at h
 · rename_i k hk
   split at h
   · rename_i p hp
     split at h
     · rename_i hg
       simp only [Option.some.injEq,Prod.mk.injEq] at h
       obtain ⟨rfl,rfl⟩:=h
       rw [List.findIdx?_eq_some_iff_getElem] at hk
       obtain ⟨hlt,h1,_⟩:=hk
       have : L[k] = p:=by
         have:=List.getElem?_eq_getElem hlt
         rw [this] at hp
         exact Option.some.inj hp
       rw [this] at h1
       simp only [beq_iff_eq] at h1
       refine ⟨p.2, ?_,hg,rfl⟩
       rw [hp, ← h1]
     · cases h
   · cases h
 · cases h
theorem handB_get {L : List (Nat × ABlk)} {j : Nat} {b : ABlk} (h : (handB L)[j]? = some b) : ∃ id b0,L[j]? = some (id,b0) ∧ b = renB (fF L) 0 b0 := by
 simp only [handB,List.getElem?_map,Option.map_eq_some_iff] at h
 obtain ⟨p,h1,h2⟩:=h
 exact ⟨p.1,p.2,h1,h2.symm⟩
theorem hand_over {E : Env} {H : NL ABlk} (hH : E.H = lk H) (hr : HR E) {L : List (Nat × ABlk)} (hnd : (L.map (·.1)).Nodup) (hL : ∀ p ∈ L,lk H p.1 = some p.2 ∧ p.2.kind ≠ 0) :
   HR (envB E L) ∧ RenOK (fF L) E (envB E L):=by
 have hφ : ∀ (j id : Nat) (b : ABlk),L[j]? = some (id,b) → (envB E L).φ j = E.φ id ∧ (envB E L).cs j = E.cs id ∧ E.H id = some b ∧ b.kind ≠ 0:=by
   intro j id b h
   have:=hL _ (List.mem_of_getElem? h)
   exact ⟨by simp [envB,h],by simp [envB,h],by rw [hH]; exact this.1,this.2⟩
 have hinj : ∀ (i j id : Nat) (b b' : ABlk),L[i]? = some (id,b) → L[j]? = some (id,b') → i = j:=by
   intro i j id b b' h1 h2
   have hi:=(List.getElem?_eq_some_iff.1 h1).1
   exact (List.getElem?_inj (by simpa using hi) hnd).1 (by simp [h1,h2])
 have himm : ∀ b,E.imm b → (envB E L).imm b:=by
   intro b hb
   refine ⟨hb.1,fun hk=>?_,fun j blk hj hk hc he=>?_⟩
   · rcases hk with hk | ⟨_,id,blk,h1,h2,h3,h4,_⟩
     · exact hb.2.1 hk
     · exact hb.2.2 id blk h1 h2 h3 h4
   · obtain ⟨id,b0,h1,rfl⟩:=handB_get hj
     obtain ⟨e1,e2,e3,e4⟩:=hφ j id b0 h1
     exact hb.2.2 id b0 e3 hk (by rw [← e2]; exact hc) (by rw [← e1]; exact he)
 have hren : RenOK (fF L) E (envB E L):=by
   refine ⟨rfl,himm,fun i g i' g' he blk hb hg=>?_,fun i g i' g' he=>?_⟩
   · obtain ⟨b,h1,h2,rfl⟩:=fF_some he
     obtain ⟨e1,e2,e3,e4⟩:=hφ i' i b h1
     rw [e3] at hb; cases hb
     exact ⟨renB (fF L) 0 blk,by simp [envB,handB,h1],rfl,rfl,rfl,e1,e2⟩
   · obtain ⟨b,h1,h2,rfl⟩:=fF_some he
     obtain ⟨e1,e2,e3,e4⟩:=hφ i' i b h1
     exact ⟨b,e3,h2⟩
 refine ⟨⟨fun j b hb=>?_,fun i j bi bj hi hj ki kj ci cj hne=>?_,fun j b hb hk hc=>?_,fun b hb=>?_⟩,hren⟩
 · obtain ⟨id,b0,h1,rfl⟩:=handB_get hb
   obtain ⟨e1,e2,e3,e4⟩:=hφ j id b0 h1
   exact BlkOK.ren hren e1 e2 (hr.blk id b0 e3)
 · obtain ⟨id1,b1,h1,rfl⟩:=handB_get hi
   obtain ⟨id2,b2,h2,rfl⟩:=handB_get hj
   obtain ⟨e1,e2,e3,e4⟩:=hφ i id1 b1 h1
   obtain ⟨f1,f2,f3,f4⟩:=hφ j id2 b2 h2
   rw [e1,f1]
   refine hr.inj id1 id2 b1 b2 e3 f3 e4 f4 (by rw [← e2]; exact ci) (by rw [← f2]; exact cj) fun e=>hne ?_
   subst e
   exact hinj i j id1 b1 b2 h1 h2
 · obtain ⟨id,b0,h1,rfl⟩:=handB_get hb
   obtain ⟨e1,e2,e3,e4⟩:=hφ j id b0 h1
   have hc' : 0 < E.cs id:=by rw [← e2]; exact hc
   obtain ⟨g1,g2⟩:=hr.nf id b0 e3 e4 hc'
   rw [e1]
   refine ⟨g1,fun hk=>?_⟩
   rcases hk with hk | ⟨_,id',blk,k1,k2,k3,k4,k5⟩
   · exact g2 hk
   · refine hr.inj id' id blk b0 k1 e3 (by omega) e4 k3 hc' (fun e=>?_) k4
     exact k5 _ (List.mem_of_getElem? h1) e.symm
 · rcases hb with hb | ⟨hb,_⟩
   · exact hr.fb b hb
   · exact hb
def backF (ids : List (Nat × Nat)) (B : List ABlk) (i g : Nat) : Option (Nat × Nat) := match B[i]? with
 | some b=>if g = b.gen then ids[i]? else none
 | none=>none
def puts (H : NL ABlk) : List (Nat × ABlk) → NL ABlk
 | []=>H
 | (i,b) :: r=>puts (st H i b) r
theorem lk_puts_other : ∀ (l : List (Nat × ABlk)) (H : NL ABlk) (id : Nat),(∀ p ∈ l,p.1 ≠ id) → lk (puts H l) id = lk H id
 | [],_,_,_=>rfl
 | (i,b) :: r,H,id,h=>by
   simp only [puts]
   rw [lk_puts_other r _ id (fun p hp=>h p (by simp [hp])),lk_st,if_neg (h (i,b) (by simp))]
theorem lk_puts : ∀ (l : List (Nat × ABlk)) (H : NL ABlk) (j id : Nat) (b : ABlk),(l.map (·.1)).Nodup → l[j]? = some (id,b) → lk (puts H l) id = some b
 | [],_,_,_,_,_,h=>by simp at h
 | (i,b0) :: r,H,0,id,b,hnd,h=>by
   simp only [List.getElem?_cons_zero,Option.some.injEq,Prod.mk.injEq] at h
   obtain ⟨rfl,rfl⟩:=h
   simp only [puts]
   simp only [List.map_cons,List.nodup_cons,List.mem_map,not_exists,not_and] at hnd
   rw [lk_puts_other r _ i (fun p hp e=>hnd.1 p hp e),lk_st,if_pos rfl]
 | (i,b0) :: r,H,j + 1,id,b,hnd,h=>by
   simp only [List.getElem?_cons_succ] at h
   simp only [puts]
   simp only [List.map_cons,List.nodup_cons] at hnd
   exact lk_puts r _ j id b hnd.2 h
def backL (ids : List (Nat × Nat)) (B : List ABlk) : List (Nat × ABlk) := (ids.zip B).map fun p => (p.1.1,renB (backF ids B) p.1.2 p.2)
theorem backL_get {ids : List (Nat × Nat)} {B : List ABlk} {j id g : Nat} {b : ABlk} (h1 : ids[j]? = some (id,g)) (h2 : B[j]? = some b) : (backL ids B)[j]? = some (id,renB (backF ids B) g b) := by
 simp only [backL,List.getElem?_map]
 rw [List.getElem?_zip_eq_some (z:=((id,g),b)) |>.2 ⟨h1,h2⟩]
 rfl
theorem backL_fst {ids : List (Nat × Nat)} {B : List ABlk} (h : ids.length = B.length) : (backL ids B).map (·.1) = ids.map (·.1) := by
 have h1 : ((ids.zip B).map Prod.fst) = ids:=List.map_fst_zip (by omega)
 calc (backL ids B).map (·.1) = ((ids.zip B).map Prod.fst).map (·.1):=by simp [backL,List.map_map,Function.comp_def]
   _ = ids.map (·.1):=by rw [h1]
theorem adoptB {E Ec : Env} {H : NL ABlk} (hH : E.H = lk H) (hr : HR E) {L : List (Nat × ABlk)} (hnd : (L.map (·.1)).Nodup) (hL : ∀ p ∈ L,lk H p.1 = some p.2 ∧ p.2.kind ≠ 0)
   {B : List ABlk} (hB : Ec.H = fun i=>B[i]?) (hc : HR Ec) (hs : Step (envB E L) Ec) (hmv : ∀ (j : Nat) (b : ABlk),j < L.length → B[j]? = some b → b.gen = 0 ∨ b.gen = 1 ∧ b.kind = 2) (hgn : ∀ (j : Nat) (b : ABlk),L.length ≤ j → B[j]? = some b → b.gen = 0)
   {ids : List (Nat × Nat)} (hil : ids.length = B.length) (hin : (ids.map (·.1)).Nodup) (hlen : L.length ≤ ids.length)
   (hold : ∀ (j id g : Nat) (bj : ABlk),j < L.length → ids[j]? = some (id,g) → B[j]? = some bj → ∃ b,L[j]? = some (id,b) ∧ g = b.gen + bj.gen)
   (hnew : ∀ (j id g : Nat),L.length ≤ j → ids[j]? = some (id,g) → (∀ p ∈ L,p.1 ≠ id) ∧ g = genOf H id) (hk2 : ∀ (j : Nat) (b : ABlk),L.length ≤ j → B[j]? = some b → 2 ≤ b.kind) :
   ∃ E',E'.w = Ec.w ∧ E'.H = lk (puts H (backL ids B)) ∧ HR E' ∧ Step E E' ∧ RenOK (backF ids B) Ec E':=by
 have hφ : ∀ (j id : Nat) (b : ABlk),L[j]? = some (id,b) → (envB E L).φ j = E.φ id ∧ (envB E L).cs j = E.cs id ∧ E.H id = some b ∧ b.kind ≠ 0 ∧ (envB E L).H j = some (renB (fF L) 0 b):=by
   intro j id b h
   have:=hL _ (List.mem_of_getElem? h)
   exact ⟨by simp [envB,h],by simp [envB,h],by rw [hH]; exact this.1,this.2,by simp [envB,handB,h]⟩
 let pos : Nat → Option Nat:=fun id=>ids.findIdx? (fun p=>p.1 == id)
 have pos_some : ∀ id j,pos id = some j → ∃ g b,ids[j]? = some (id,g) ∧ B[j]? = some b:=by
   intro id j h
   simp only [pos,List.findIdx?_eq_some_iff_getElem] at h
   obtain ⟨hlt,h1,_⟩:=h
   simp only [beq_iff_eq] at h1
   exact ⟨(ids[j]).2,B[j]'(by omega),by rw [List.getElem?_eq_getElem hlt, ← h1],List.getElem?_eq_getElem (by omega)⟩
 have pos_none : ∀ id,pos id = none → ∀ p ∈ ids,p.1 ≠ id:=by
   intro id h p hp e
   simp only [pos,List.findIdx?_eq_none_iff] at h
   have:=h p hp
   simp [e] at this
 have pos_of : ∀ (j id g : Nat),ids[j]? = some (id,g) → pos id = some j:=by
   intro j id g h
   cases hp : pos id with
   | none=>exact absurd rfl (pos_none id hp _ (List.mem_of_getElem? h))
   | some k =>
     obtain ⟨g',b',h1,_⟩:=pos_some id k hp
     have hk:=(List.getElem?_eq_some_iff.1 h1).1
     have:=(List.getElem?_inj (by simpa using hk) hin).1 (show (ids.map (·.1))[k]? = (ids.map (·.1))[j]? by simp [h,h1])
     rw [this]
 have hlk_in : ∀ (j id g : Nat) (b : ABlk),ids[j]? = some (id,g) → B[j]? = some b → lk (puts H (backL ids B)) id = some (renB (backF ids B) g b):=fun j id g b h1 h2 =>
   lk_puts _ H j id _ (by rw [backL_fst hil]; exact hin) (backL_get h1 h2)
 have hlk_out : ∀ id,pos id = none → lk (puts H (backL ids B)) id = lk H id:=fun id h =>
   lk_puts_other _ H id fun p hp e=>by
     have : p.1 ∈ (backL ids B).map (·.1):=List.mem_map.2 ⟨p,hp,rfl⟩
     rw [backL_fst hil] at this
     obtain ⟨q,hq,he⟩:=List.mem_map.1 this
     exact pos_none id h q hq (he.trans e)
 have hLout : ∀ id,pos id = none → ∀ p ∈ L,p.1 ≠ id:=by
   intro id h p hp e
   obtain ⟨j,hj,he⟩:=List.mem_iff_getElem.1 hp
   have hj' : j < ids.length:=by omega
   obtain ⟨b,hb,_⟩:=hold j ids[j].1 ids[j].2 (B[j]'(by omega)) hj (by rw [List.getElem?_eq_getElem hj']) (List.getElem?_eq_getElem (by omega))
   rw [List.getElem?_eq_getElem hj,he] at hb
   simp only [Option.some.injEq] at hb
   exact pos_none id h ids[j] (List.getElem_mem hj') (by rw [← e,hb])
 let φ' : Nat → Nat:=fun id=>match pos id with
   | some j=>Ec.φ j
   | none=>E.φ id
 let cs' : Nat → Nat:=fun id=>match pos id with
   | some j=>Ec.cs j
   | none=>E.cs id
 have hin' : ∀ id j,pos id = some j → φ' id = Ec.φ j ∧ cs' id = Ec.cs j:=fun id j h=>by simp [φ',cs',h]
 have hout' : ∀ id,pos id = none → φ' id = E.φ id ∧ cs' id = E.cs id:=fun id h=>by simp [φ',cs',h]
 have hsz : E.w.heap.size ≤ Ec.w.heap.size:=hs.size
 -- what lies outside of what was handed over stays
 have hkeep : ∀ b,b < E.w.heap.size → (∀ p ∈ L,2 ≤ p.2.kind → 0 < E.cs p.1 → E.φ p.1 ≠ b) → Ec.w.heap[b]? = E.w.heap[b]?:=by
   intro b hb hn
   refine hs.old b hb fun j blk hj hk hcs he=>?_
   obtain ⟨id,b0,h1,rfl⟩:=handB_get hj
   obtain ⟨e1,e2,_⟩:=hφ j id b0 h1
   exact hn (id,b0) (List.mem_of_getElem? h1) hk (by simpa only [← e2] using hcs) (by simpa only [← e1] using he)
 have hcur : ∀ (j id g : Nat) (b : ABlk),j < L.length → ids[j]? = some (id,g) → B[j]? = some b → b.gen = 0 → ∃ b0,L[j]? = some (id,b0) ∧ b0.gen = g ∧ E.H id = some b0 ∧ b0.kind ≠ 0 ∧
     (b.kind = b0.kind ∨ b0.kind = 2 ∧ b.kind = 1) ∧ b.size = b0.size ∧ b.elem = b0.elem ∧ Ec.φ j = E.φ id ∧ Ec.cs j = E.cs id:=by
   intro j id g b hj h1 h2 hz
   obtain ⟨b0,h3,h4⟩:=hold j id g b hj h1 h2
   rw [hz,Nat.add_zero] at h4
   replace h4:=h4.symm
   obtain ⟨e1,e2,e3,e4,e5⟩:=hφ j id b0 h3
   obtain ⟨b',q1,q2,q3⟩:=hs.ref j _ e5
   rw [hB] at q1
   simp only at q1
   rw [h2] at q1; cases q1
   obtain ⟨k1,k2,k3,k4,k5⟩:=q3 hz e4
   exact ⟨b0,h3,h4,e3,e4,k1,k2,k3,k4.trans e1,k5.trans e2⟩
 -- a block that took another one's place
 have hmov : ∀ (j id g : Nat) (b : ABlk),j < L.length → ids[j]? = some (id,g) → B[j]? = some b → b.gen = 1 → ∃ b0,L[j]? = some (id,b0) ∧ g = b0.gen + 1 ∧ E.H id = some b0 ∧ b0.kind ≠ 0:=by
   intro j id g b hj h1 h2 hz
   obtain ⟨b0,h3,h4⟩:=hold j id g b hj h1 h2
   rw [hz] at h4
   obtain ⟨e1,e2,e3,e4,e5⟩:=hφ j id b0 h3
   exact ⟨b0,h3,h4,e3,e4⟩
 -- where a block lies that may be written
 have hlive : ∀ (j id g : Nat) (b : ABlk),ids[j]? = some (id,g) → B[j]? = some b → 2 ≤ b.kind → 0 < Ec.cs j → (∃ (ic : Nat) (b00 : ABlk),E.H ic = some b00 ∧ 2 ≤ b00.kind ∧ 0 < E.cs ic ∧ Ec.φ j = E.φ ic ∧ (∃ p ∈ L,p.1 = ic) ∧ (ic = id ∨ ∃ b1,lk (puts H (backL ids B)) ic = some b1 ∧ b00.gen < b1.gen)) ∨ E.w.heap.size ≤ Ec.φ j:=by
   intro j id g b hj1 hj2 hk hcs
   rcases hs.live j b (by rw [hB]; exact hj2) hk hcs with ⟨i0,blk,hb,f1,f2,f3,f4⟩ | hge
   · obtain ⟨ic,b00,h1,rfl⟩:=handB_get hb
     obtain ⟨e1,e2,e3,e4,e5⟩:=hφ i0 ic b00 h1
     refine .inl ⟨ic,b00,e3,f1,by rw [← e2]; exact f2,f3.trans e1,⟨_,List.mem_of_getElem? h1,rfl⟩, ?_⟩
     have hi0 : i0 < L.length:=(List.getElem?_eq_some_iff.1 h1).1
     rcases f4 with rfl | ⟨b1,g1,g2⟩
     · obtain ⟨b',h3,_⟩:=hold i0 id g b hi0 hj1 hj2
       rw [h1] at h3
       cases h3
       exact .inl rfl
     · rw [hB] at g1
       have g2 : 0 < b1.gen:=g2
       have hz : b1.gen = 1:=by rcases hmv i0 b1 hi0 g1 with h | h <;> omega
       obtain ⟨⟨ic',g'⟩,hid⟩ : ∃ p,ids[i0]? = some p:=⟨_,List.getElem?_eq_getElem (by omega)⟩
       obtain ⟨b',h3,h4⟩:=hold i0 ic' g' b1 hi0 hid g1
       rw [h1] at h3
       cases h3
       refine .inr ⟨_,hlk_in i0 ic g' b1 hid g1, ?_⟩
       show b00.gen < g'
       omega
   · exact .inr hge
 have hst : Step E ⟨Ec.w,lk (puts H (backL ids B)), φ',cs',E.F⟩:=by
   refine ⟨hsz,fun b hb hn=>hkeep b hb fun p hp hk hcs he=>hn p.1 p.2 (by rw [hH]; exact (hL p hp).1) hk hcs he,rfl,fun id blk hb=>?_,fun id blk' hb hk hcs=>?_,hs.kept⟩
   · cases hp : pos id with
     | none =>
       obtain ⟨e1,e2⟩:=hout' id hp
       exact ⟨blk,by simp only; rw [hlk_out id hp, ← hH]; exact hb,Nat.le_refl _,fun _ _=>⟨.inl rfl,rfl,rfl,e1,e2⟩⟩
     | some j =>
       obtain ⟨g,b,h1,h2⟩:=pos_some id j hp
       obtain ⟨e1,e2⟩:=hin' id j hp
       refine ⟨_,hlk_in j id g b h1 h2, ?_, ?_⟩
       · by_cases hj : j < L.length
         · rcases hmv j b hj h2 with hz | ⟨hz,_⟩
           · obtain ⟨b0,k1,k2,k3,_⟩:=hcur j id g b hj h1 h2 hz
             rw [hb] at k3; cases k3
             show blk.gen ≤ g
             omega
           · obtain ⟨b0,k1,k2,k3,_⟩:=hmov j id g b hj h1 h2 hz
             rw [hb] at k3; cases k3
             show blk.gen ≤ g
             omega
         · obtain ⟨_,hg⟩:=hnew j id g (by omega) h1
           show blk.gen ≤ g
           have : genOf H id = blk.gen + 1:=by simp [genOf, ← hH,hb]
           omega
       · intro hg _
         have hg' : g = blk.gen:=hg
         by_cases hj : j < L.length
         · rcases hmv j b hj h2 with hz | ⟨hz,_⟩
           · obtain ⟨b0,k1,k2,k3,k4,k5,k6,k7,k8,k9⟩:=hcur j id g b hj h1 h2 hz
             rw [hb] at k3; cases k3
             exact ⟨k5,k6,k7,e1.trans k8,e2.trans k9⟩
           · obtain ⟨b0,k1,k2,k3,_⟩:=hmov j id g b hj h1 h2 hz
             rw [hb] at k3; cases k3
             omega
         · obtain ⟨_,hgg⟩:=hnew j id g (by omega) h1
           have : genOf H id = blk.gen + 1:=by simp [genOf, ← hH,hb]
           omega
   · cases hp : pos id with
     | none =>
       obtain ⟨e1,e2⟩:=hout' id hp
       simp only at hb hcs
       rw [hlk_out id hp, ← hH] at hb
       exact .inl ⟨id,blk',hb,hk,by rw [← e2]; exact hcs,e1, .inl rfl⟩
     | some j =>
       obtain ⟨g,b,h1,h2⟩:=pos_some id j hp
       obtain ⟨e1,e2⟩:=hin' id j hp
       simp only at hb hcs
       rw [hlk_in j id g b h1 h2] at hb
       simp only [Option.some.injEq] at hb
       subst hb
       rcases hlive j id g b h1 h2 hk (by rw [← e2]; exact hcs) with ⟨ic,b00,c1,c2,c3,c4,_,c5⟩ | hge
       · exact .inl ⟨ic,b00,c1,c2,c3,e1.trans c4,c5⟩
       · right
         show E.w.heap.size ≤ φ' id
         rw [e1]; exact hge
 have himm : ∀ b,Ec.imm b → (Env.mk Ec.w (lk (puts H (backL ids B))) φ' cs' E.F).imm b:=by
   intro b hb
   have hF : ¬ keepB E L b:=by have:=hb.2.1; rw [hs.fo] at this; exact this
   refine ⟨hb.1,fun hf=>hF (.inl hf),fun id blk hbk hk hcs he=>?_⟩
   cases hp : pos id with
   | none =>
     obtain ⟨e1,e2⟩:=hout' id hp
     simp only at hbk hcs he
     rw [hlk_out id hp, ← hH] at hbk
     rw [e2] at hcs
     rw [e1] at he
     refine hF (.inr ⟨?_,id,blk,hbk,hk,hcs,he,hLout id hp⟩)
     have:=(hr.nf id blk hbk (by omega) hcs).1
     omega
   | some j =>
     obtain ⟨g,b1,h1,h2⟩:=pos_some id j hp
     obtain ⟨e1,e2⟩:=hin' id j hp
     simp only at hbk hcs he
     rw [hlk_in j id g b1 h1 h2] at hbk
     simp only [Option.some.injEq] at hbk
     subst hbk
     exact hb.2.2 j b1 (by rw [hB]; exact h2) hk (by rw [← e2]; exact hcs) (by rw [← e1]; exact he)
 have hren : RenOK (backF ids B) Ec ⟨Ec.w,lk (puts H (backL ids B)), φ',cs',E.F⟩:=by
   have key : ∀ i g i' g',backF ids B i g = some (i',g') → ∃ b,B[i]? = some b ∧ g = b.gen ∧ ids[i]? = some (i',g'):=by
     intro i g i' g' he
     unfold backF at he
     split at he
     · rename_i b hb
       split at he
       · exact ⟨b,hb,by assumption,he⟩
       · cases he
     · cases he
   refine ⟨rfl,himm,fun i g i' g' he blk hb hg=>?_,fun i g i' g' he=>?_⟩
   · obtain ⟨_,_,_,h1⟩:=key i g i' g' he
     rw [hB] at hb
     obtain ⟨e1,e2⟩:=hin' i' i (pos_of i i' g' h1)
     exact ⟨_,hlk_in i i' g' blk h1 hb,rfl,rfl,rfl,e1,e2⟩
   · obtain ⟨b,hb,hg,h1⟩:=key i g i' g' he
     exact ⟨b,by rw [hB]; exact hb,hg.symm⟩
 refine ⟨⟨Ec.w,lk (puts H (backL ids B)), φ',cs',E.F⟩,rfl,rfl,⟨fun id b hb=>?_,fun i j bi bj hi hj ki kj ci cj hne=>?_,fun id b hb hk hcs=>?_,fun b hf=>Nat.lt_of_lt_of_le (hr.fb b hf) hsz⟩,hst,hren⟩
 · cases hp : pos id with
   | none =>
     obtain ⟨e1,e2⟩:=hout' id hp
     simp only at hb
     rw [hlk_out id hp, ← hH] at hb
     refine BlkOK.mono hst e1 e2 (fun hz hcs=>hkeep _ (hr.nf id b hb hz hcs).1 fun p hp' hk' hcs' he=>?_) (hr.blk id b hb)
     exact hr.inj p.1 id p.2 b (by rw [hH]; exact (hL p hp').1) hb (hL p hp').2 hz hcs' hcs (hLout id hp p hp') he
   | some j =>
     obtain ⟨g,b1,h1,h2⟩:=pos_some id j hp
     obtain ⟨e1,e2⟩:=hin' id j hp
     simp only at hb
     rw [hlk_in j id g b1 h1 h2] at hb
     simp only [Option.some.injEq] at hb
     subst hb
     exact BlkOK.ren hren e1 e2 (hc.blk j b1 (by rw [hB]; exact h2))
 · simp only at hi hj ci cj ⊢
   have far : ∀ (i j : Nat) (bi bj : ABlk) (m : Nat),pos i = some m → pos j = none → lk (puts H (backL ids B)) i = some bi → lk (puts H (backL ids B)) j = some bj → bi.kind ≠ 0 → bj.kind ≠ 0 → 0 < cs' i → 0 < cs' j → φ' i ≠ φ' j:=by
     intro i j bi bj m pi pj hi hj ki kj ci cj
     obtain ⟨g,b1,h1,h2⟩:=pos_some i m pi
     obtain ⟨e1,e2⟩:=hin' i m pi
     obtain ⟨f1,f2⟩:=hout' j pj
     rw [hlk_in m i g b1 h1 h2] at hi
     simp only [Option.some.injEq] at hi
     subst hi
     rw [hlk_out j pj, ← hH] at hj
     rw [f2] at cj
     rw [e2] at ci
     rw [e1,f1]
     intro he
     have away : 2 ≤ b1.kind → False:=fun hk=>by
       rcases hlive m i g b1 h1 h2 hk ci with ⟨ic,b00,c1,c2,c3,c4,⟨p,hp,rfl⟩,_⟩ | hge
       · exact hr.inj p.1 j b00 bj c1 hj (by omega) kj c3 cj (hLout j pj p hp) (by rw [← c4]; exact he)
       · have hlt:=(hr.nf j bj hj kj cj).1
         omega
     by_cases hm : m < L.length
     · rcases hmv m b1 hm h2 with hz | ⟨hz,hz2⟩
       · obtain ⟨b0,k1,k2,k3,k4,k5,k6,k7,k8,k9⟩:=hcur m i g b1 hm h1 h2 hz
         exact hr.inj i j b0 bj k3 hj k4 kj (by rw [← k9]; exact ci) cj (fun e=>by subst e; rw [pi] at pj; cases pj) (by rw [← k8]; exact he)
       · exact away (by omega)
     · exact away (hk2 m b1 (by omega) h2)
   cases pi : pos i with
   | none =>
     cases pj : pos j with
     | none =>
       obtain ⟨e1,e2⟩:=hout' i pi
       obtain ⟨f1,f2⟩:=hout' j pj
       rw [hlk_out i pi, ← hH] at hi
       rw [hlk_out j pj, ← hH] at hj
       rw [e1,f1]
       exact hr.inj i j bi bj hi hj ki kj (by rw [← e2]; exact ci) (by rw [← f2]; exact cj) hne
     | some m=>exact fun he=>far j i bj bi m pj pi hj hi kj ki cj ci he.symm
   | some m =>
     cases pj : pos j with
     | none=>exact far i j bi bj m pi pj hi hj ki kj ci cj
     | some n =>
       obtain ⟨g,b1,h1,h2⟩:=pos_some i m pi
       obtain ⟨g',b2,h3,h4⟩:=pos_some j n pj
       obtain ⟨e1,e2⟩:=hin' i m pi
       obtain ⟨f1,f2⟩:=hin' j n pj
       rw [hlk_in m i g b1 h1 h2] at hi
       rw [hlk_in n j g' b2 h3 h4] at hj
       simp only [Option.some.injEq] at hi hj
       subst hi
       subst hj
       rw [e1,f1]
       refine hc.inj m n b1 b2 (by rw [hB]; exact h2) (by rw [hB]; exact h4) ki kj (by rw [← e2]; exact ci) (by rw [← f2]; exact cj) fun e=>hne ?_
       subst e
       rw [h1] at h3
       simp only [Option.some.injEq,Prod.mk.injEq] at h3
       exact h3.1
 · cases hp : pos id with
   | none =>
     obtain ⟨e1,e2⟩:=hout' id hp
     simp only at hb hcs ⊢
     rw [hlk_out id hp, ← hH] at hb
     have:=hr.nf id b hb hk (by rw [← e2]; exact hcs)
     rw [e1]
     exact ⟨by omega,this.2⟩
   | some j =>
     obtain ⟨g,b1,h1,h2⟩:=pos_some id j hp
     obtain ⟨e1,e2⟩:=hin' id j hp
     simp only at hb hcs ⊢
     rw [hlk_in j id g b1 h1 h2] at hb
     simp only [Option.some.injEq] at hb
     subst hb
     have:=hc.nf j b1 (by rw [hB]; exact h2) hk (by rw [← e2]; exact hcs)
     rw [e1]
     refine ⟨this.1,fun hf=>this.2 ?_⟩
     rw [hs.fo]
     exact .inl hf
end
end Go.Abs
