/- Operations evaluated in straight steps: each by a plain function of its arguments and the store. Conditions: none. -/
import Derived.Test.YtphclapfniepoaaGreatAb6
namespace Go.Abs
open Go
set_option linter.unusedSimpArgs false
set_option linter.unusedVariables false
section
def thn {α β : Type} (o : Out α) (r : Option (Out β)) : Option (Out β) := match r with
 | some q=>some ⟨q.val,q.H,o.rd ++ q.rd,o.wr ++ q.wr,o.as ∧ q.as⟩
 | none=>none
@[simp] theorem thn_some {α β : Type} (o : Out α) (q : Out β) : thn o (some q) = some ⟨q.val,q.H,o.rd ++ q.rd,o.wr ++ q.wr,o.as ∧ q.as⟩ := rfl
@[simp] theorem thn_none {α β : Type} (o : Out α) : thn o (none : Option (Out β)) = none := rfl
@[simp] theorem thn_nil {α β : Type} (v : α) (H : NL ABlk) (r : Option (Out β)) : thn ⟨v,H,[],[],True⟩ r = r := by
 cases r <;> simp [thn]
theorem run_bind {α β : Type} : ∀ (p : AP α) (f : α → AP β) (H : NL ABlk),(p.bind f).run H = match p.run H with
   | some o=>thn o ((f o.val).run o.H)
   | none=>none
 | .ret a,f,H=>by simp [AP.bind,AP.run]
 | .fail,f,H=>by simp [AP.bind,AP.run]
 | .get id k,f,H=>by
   simp only [AP.bind,AP.run]
   split
   · rw [run_bind (k {}) f H]
     cases (k {}).run H with
     | none=>rfl
     | some o=>simp only [thn]; cases (f o.val).run o.H <;> simp
   · rename_i b _
     rw [run_bind (k b) f H]
     cases (k b).run H with
     | none=>rfl
     | some o=>simp only [thn]; cases (f o.val).run o.H <;> simp
 | .put id b k,f,H=>by
   simp only [AP.bind,AP.run]
   rw [run_bind k f]
   cases k.run (st H id b) with
   | none=>rfl
   | some o=>simp only [thn]; cases (f o.val).run o.H <;> simp
 | .asm p k,f,H=>by
   simp only [AP.bind,AP.run]
   rw [run_bind k f]
   cases k.run H with
   | none=>rfl
   | some o=>simp only [thn]; cases (f o.val).run o.H <;> simp [and_assoc]
def nxt {α β : Type} (o : Option (Out α)) (f : α → NL ABlk → Option (Out β)) : Option (Out β) := match o with
 | some o=>thn o (f o.val o.H)
 | none=>none
theorem run_bindN {α β : Type} (p : AP α) (f : α → AP β) (H : NL ABlk) : (p.bind f).run H = nxt (p.run H) fun x H => (f x).run H := run_bind p f H
theorem nxt_assoc {α β γ : Type} (o : Option (Out α)) (f : α → NL ABlk → Option (Out β)) (g : β → NL ABlk → Option (Out γ)) : nxt (nxt o f) g = nxt o fun x H => nxt (f x H) g := by
 cases o with
 | none=>rfl
 | some o =>
   simp only [nxt]
   cases f o.val o.H with
   | none=>rfl
   | some q =>
     simp only [nxt,thn]
     cases g q.val q.H <;> simp [and_assoc]
theorem nxt_some {α β : Type} (v : α) (H : NL ABlk) (f : α → NL ABlk → Option (Out β)) : nxt (some ⟨v,H,[],[],True⟩) f = f v H := by simp [nxt]
def frz0 (x : AV) : AP AV := frz1 x .ret
theorem frz1_bind (x : AV) (k : AV → AP AV) : frz1 x k = (frz0 x).bind k := by
 unfold frz0 frz1
 split
 · simp only [AP.bind]
   congr 1; funext b
   split
   · split
     · rfl
     · split <;> rfl
   · rfl
 · split <;> rfl
def brw0 (x : AV) : AP AV := brw1 x .ret
theorem brw1_bind (x : AV) (k : AV → AP AV) : brw1 x k = (brw0 x).bind k := by
 unfold brw0 brw1
 split
 · simp only [AP.bind]
   congr 1; funext b
   split <;> rfl
 · split <;> rfl
def frz0R (x : AV) (H : NL ABlk) : Option (Out AV) := (frz0 x).run H
def brw0R (x : AV) (H : NL ABlk) : Option (Out AV) := (brw0 x).run H
theorem frz0R_inl {x : AV} (h : x.isInl = true) (H : NL ABlk) : frz0R x H = some ⟨x,H,[],[],True⟩ := by
 unfold frz0R frz0
 rw [show frz1 x AP.ret = AP.ret x from ?_]
 · rfl
 · unfold frz1
   split
   · simp [AV.isInl] at h
   · rw [if_pos h]
theorem brw0R_inl {x : AV} (h : x.isInl = true) (H : NL ABlk) : brw0R x H = some ⟨x,H,[],[],True⟩ := by
 unfold brw0R brw0
 rw [show brw1 x AP.ret = AP.ret x from ?_]
 · rfl
 · unfold brw1
   split
   · simp [AV.isInl] at h
   · rw [if_pos h]
theorem frz0R_sl (id g off len : Nat) (H : NL ABlk) : frz0R (.sl id g off len) H = match lk H id with
   | some b=>if b.gen = g ∧ b.inl = true ∧ off + len ≤ b.rows.length then
       if b.kind = 2 then some ⟨.list b.size ((b.rows.drop off).take len),st H id { b with kind:=1 },[id],[id],True⟩
       else if b.kind = 1 then some ⟨.list b.size ((b.rows.drop off).take len),H,[id],[],True⟩ else none
     else none
   | none=>none:=by
 simp only [frz0R,frz0,frz1,AP.run]
 cases lk H id with
 | none=>simp [AP.run]
 | some b =>
   dsimp only
   by_cases h1 : b.gen = g ∧ b.inl = true ∧ off + len ≤ b.rows.length
   · simp only [if_pos h1]
     by_cases h2 : b.kind = 2
     · simp [h2,AP.run]
     · by_cases h3 : b.kind = 1
       · simp [h3,AP.run]
       · simp [h2,h3,AP.run]
   · simp only [if_neg h1,AP.run]
theorem brw0R_sl (id g off len : Nat) (H : NL ABlk) : brw0R (.sl id g off len) H = match lk H id with
   | some b=>if b.gen = g ∧ b.inl = true ∧ off + len ≤ b.rows.length ∧ (b.kind = 1 ∨ b.kind = 2) then some ⟨.list b.size ((b.rows.drop off).take len),H,[id],[],True⟩ else none
   | none=>none:=by
 simp only [brw0R,brw0,brw1,AP.run]
 cases lk H id with
 | none=>simp [AP.run]
 | some b =>
   dsimp only
   by_cases h1 : b.gen = g ∧ b.inl = true ∧ off + len ≤ b.rows.length ∧ (b.kind = 1 ∨ b.kind = 2)
   · simp only [if_pos h1,AP.run]
   · simp only [if_neg h1,AP.run]
def listR (q : AV → NL ABlk → Option (Out AV)) : List AV → NL ABlk → Option (Out (List AV))
 | [],H=>some ⟨[],H,[],[],True⟩
 | x :: r,H=>nxt (q x H) fun x' H'=>nxt (listR q r H') fun r' H''=>some ⟨x' :: r',H'',[],[],True⟩
def mapO {α β : Type} (f : α → β) (o : Option (Out α)) : Option (Out β) := match o with
 | some o=>some ⟨f o.val,o.H,o.rd,o.wr,o.as⟩
 | none=>none
theorem nxt_ret {α β : Type} (o : Option (Out α)) (f : α → β) : nxt o (fun x H => some ⟨f x,H,[],[],True⟩) = mapO f o := by
 cases o <;> simp [nxt,thn,mapO]
theorem frzL_run : ∀ (l : List AV) (k : List AV → AP AV) (H : NL ABlk),(frzL l k).run H = nxt (listR frz0R l H) fun x H => (k x).run H
 | [],k,H=>by simp [frzL,listR,nxt]
 | x :: r,k,H=>by
   simp only [frzL,listR,nxt_assoc,nxt_some]
   rw [frz1_bind,run_bindN]
   show nxt (frz0R x H) _ = _
   congr 1; funext x' H'
   rw [frzL_run r]
theorem brwL_run : ∀ (l : List AV) (k : List AV → AP AV) (H : NL ABlk),(brwL l k).run H = nxt (listR brw0R l H) fun x H => (k x).run H
 | [],k,H=>by simp [brwL,listR,nxt]
 | x :: r,k,H=>by
   simp only [brwL,listR,nxt_assoc,nxt_some]
   rw [brw1_bind,run_bindN]
   show nxt (brw0R x H) _ = _
   congr 1; funext x' H'
   rw [brwL_run r]
theorem nxt_map {α β γ : Type} (o : Option (Out α)) (f : α → β) (k : β → NL ABlk → Option (Out γ)) : nxt (mapO f o) k = nxt o fun x H => k (f x) H := by
 cases o <;> rfl
def valR (q : AV → NL ABlk → Option (Out AV)) (x : AV) (H : NL ABlk) : Option (Out AV) := match x with
 | .agg cs=>mapO AV.agg (listR q cs H)
 | .tup cs=>mapO AV.tup (listR q cs H)
 | .fn f a b=>nxt (listR q a H) fun a' H'=>mapO (AV.fn f a') (listR q b H')
 | x=>q x H
theorem frzV_run (x : AV) (k : AV → AP AV) (H : NL ABlk) : (frzV x k).run H = nxt (valR frz0R x H) fun x H => (k x).run H := by
 unfold frzV
 split
 · simp only [frzL_run,valR,nxt_map]
 · simp only [frzL_run,valR,nxt_map]
 · rename_i f a b
   simp only [frzL_run,valR]
   cases listR frz0R a H with
   | none=>rfl
   | some o =>
     simp only [nxt]
     cases listR frz0R b o.H with
     | none=>rfl
     | some q =>
       simp only [mapO,thn]
       cases (k (.fn f o.val q.val)).run q.H <;> simp [and_assoc]
 · rename_i h1 h2 h3
   rw [frz1_bind,run_bindN]
   have : valR frz0R x H = frz0R x H:=by
     unfold valR
     split
     · exact absurd rfl (h1 _)
     · exact absurd rfl (h2 _)
     · exact absurd rfl (h3 _ _ _)
     · rfl
   rw [this]
   rfl
theorem brwV_run (x : AV) (k : AV → AP AV) (H : NL ABlk) : (brwV x k).run H = nxt (valR brw0R x H) fun x H => (k x).run H := by
 unfold brwV
 split
 · simp only [brwL_run,valR,nxt_map]
 · simp only [brwL_run,valR,nxt_map]
 · rename_i f a b
   simp only [brwL_run,valR]
   cases listR brw0R a H with
   | none=>rfl
   | some o =>
     simp only [nxt]
     cases listR brw0R b o.H with
     | none=>rfl
     | some q =>
       simp only [mapO,thn]
       cases (k (.fn f o.val q.val)).run q.H <;> simp [and_assoc]
 · rename_i h1 h2 h3
   rw [brw1_bind,run_bindN]
   have : valR brw0R x H = brw0R x H:=by
     unfold valR
     split
     · exact absurd rfl (h1 _)
     · exact absurd rfl (h2 _)
     · exact absurd rfl (h3 _ _ _)
     · rfl
   rw [this]
   rfl
theorem frzVs_run : ∀ (l : List AV) (k : List AV → AP AV) (H : NL ABlk),(frzVs l k).run H = nxt (listR (valR frz0R) l H) fun x H => (k x).run H
 | [],k,H=>by simp [frzVs,listR,nxt]
 | x :: r,k,H=>by
   simp only [frzVs,listR,nxt_assoc,nxt_some]
   rw [frzV_run]
   congr 1; funext x' H'
   rw [frzVs_run r]
theorem brwVs_run : ∀ (l : List AV) (k : List AV → AP AV) (H : NL ABlk),(brwVs l k).run H = nxt (listR (valR brw0R) l H) fun x H => (k x).run H
 | [],k,H=>by simp [brwVs,listR,nxt]
 | x :: r,k,H=>by
   simp only [brwVs,listR,nxt_assoc,nxt_some]
   rw [brwV_run]
   congr 1; funext x' H'
   rw [brwVs_run r]
theorem listR_inl {q : AV → NL ABlk → Option (Out AV)} (hq : ∀ {x : AV},x.isInl = true → ∀ H,q x H = some ⟨x,H,[],[],True⟩) : ∀ {l : List AV} (_ : l.all AV.isInl = true) (H : NL ABlk),listR q l H = some ⟨l,H,[],[],True⟩
 | [],_,_=>rfl
 | x :: r,h,H=>by
   simp only [List.all_cons,Bool.and_eq_true] at h
   simp only [listR]
   rw [hq h.1,nxt_some,listR_inl hq h.2,nxt_some]
theorem listR_brwV {l : List AV} (h : l.all AV.inl2 = true) (H : NL ABlk) : listR (valR brw0R) l H = some ⟨l,H,[],[],True⟩ := by
 induction l with
 | nil=>rfl
 | cons x r ih =>
   simp only [List.all_cons,Bool.and_eq_true] at h
   have : valR brw0R x H = some ⟨x,H,[],[],True⟩:=by
     rcases inl2_cases h.1 with ⟨cs,rfl,h'⟩ | ⟨f,rfl⟩ | ⟨h',h1,h2,h3⟩
     · simp only [valR,listR_inl brw0R_inl h',mapO]
     · simp [valR,listR,nxt,mapO]
     · unfold valR
       split
       · exact absurd rfl (h1 _)
       · exact absurd rfl (h2 _)
       · exact absurd rfl (h3 _ _ _)
       · exact brw0R_inl h' H
   simp only [listR,this,nxt_some,ih h.2]
theorem listR_frzV {l : List AV} (h : l.all AV.inl2 = true) (H : NL ABlk) : listR (valR frz0R) l H = some ⟨l,H,[],[],True⟩ := by
 induction l with
 | nil=>rfl
 | cons x r ih =>
   simp only [List.all_cons,Bool.and_eq_true] at h
   have : valR frz0R x H = some ⟨x,H,[],[],True⟩:=by
     rcases inl2_cases h.1 with ⟨cs,rfl,h'⟩ | ⟨f,rfl⟩ | ⟨h',h1,h2,h3⟩
     · simp only [valR,listR_inl frz0R_inl h',mapO]
     · simp [valR,listR,nxt,mapO]
     · unfold valR
       split
       · exact absurd rfl (h1 _)
       · exact absurd rfl (h2 _)
       · exact absurd rfl (h3 _ _ _)
       · exact frz0R_inl h' H
   simp only [listR,this,nxt_some,ih h.2]
def addRd {α : Type} (id : Nat) (o : Option (Out α)) : Option (Out α) := match o with
 | some o=>some ⟨o.val,o.H,id :: o.rd,o.wr,o.as⟩
 | none=>none
theorem get_runR {α : Type} (id : Nat) (k : ABlk → AP α) (H : NL ABlk) (h0 : (k {}).run H = none) : (AP.get id k).run H = match lk H id with
   | some b=>addRd id ((k b).run H)
   | none=>none:=by
 simp only [AP.run]
 cases lk H id with
 | none=>simp [h0]
 | some b=>simp only [addRd]; cases (k b).run H <;> rfl
def loadR (P : Program) (t : TypeId) (x : AV) (H : NL ABlk) : Option (Out AV) := (loadA P t x).run H
theorem loadR_ptr (P : Program) (t : TypeId) (id g r o : Nat) (H : NL ABlk) : loadR P t (.ptr id g r o) H = match lk H id with
   | some b=>if b.gen = g ∧ (b.kind = 1 ∨ b.kind = 2) then match b.rows[r]? with
       | some row=>addRd id ((mkv P t (row.drop o)).run H)
       | none=>none
     else none
   | none=>none:=by
 simp only [loadR,loadA]
 rw [get_runR _ _ _ (by simp [AP.run])]
 cases lk H id with
 | none=>rfl
 | some b =>
   dsimp only
   by_cases h : b.gen = g ∧ (b.kind = 1 ∨ b.kind = 2)
   · simp only [if_pos h]
     cases b.rows[r]? <;> rfl
   · simp only [if_neg h]; rfl
theorem loadR_cptr (P : Program) (t : TypeId) (cells : List AV) (H : NL ABlk) : loadR P t (.cptr cells) H = (mkv P t cells).run H := rfl
def putCellsR (id g r o : Nat) (cs : List AV) (H : NL ABlk) : Option (Out AV) := match lk H id with
 | some b=>if b.gen = g ∧ b.kind = 2 ∧ cs.all (fun x=>x.cellish && (!b.inl || x.isInl)) = true then match b.rows[r]? with
     | some row=>if o + cs.length ≤ row.length then some ⟨.any,st H id { b with rows:=b.rows.set r (splice row o cs) },[id],[id],True⟩ else none
     | none=>none
   else none
 | none=>none
theorem putCells_run (id g r o : Nat) (cs : List AV) (H : NL ABlk) : (putCells id g r o cs).run H = putCellsR id g r o cs H := by
 simp only [putCells,putCellsR]
 rw [get_runR _ _ _ (by simp [AP.run])]
 cases lk H id with
 | none=>rfl
 | some b =>
   dsimp only
   by_cases h : b.gen = g ∧ b.kind = 2 ∧ cs.all (fun x=>x.cellish && (!b.inl || x.isInl)) = true
   · simp only [if_pos h]
     cases b.rows[r]? with
     | none=>rfl
     | some row =>
       dsimp only
       by_cases h2 : o + cs.length ≤ row.length
       · simp only [if_pos h2]; rfl
       · simp only [if_neg h2]; rfl
   · simp only [if_neg h]; rfl
def storeR (P : Program) (t : TypeId) (a x : AV) (H : NL ABlk) : Option (Out AV) := (storeA P t a x).run H
theorem storeR_ptr (P : Program) (t : TypeId) (id g r o : Nat) (x : AV) (H : NL ABlk) : storeR P t (.ptr id g r o) x H = match x.cellsOf with
   | some cs=>if szOf P t = some cs.length then match lk H id with
       | some b=>if b.inl = true then addRd id (nxt (listR frz0R cs H) fun cs' H'=>putCellsR id g r o cs' H') else addRd id (putCellsR id g r o cs H)
       | none=>none
     else none
   | none=>none:=by
 simp only [storeR,storeA]
 cases x.cellsOf with
 | none=>rfl
 | some cs =>
   dsimp only
   by_cases h : szOf P t = some cs.length
   · simp only [if_pos h]
     cases hb : lk H id with
     | none=>simp [AP.run,hb,putCells]
     | some b =>
       simp only [AP.run,hb]
       by_cases hi : b.inl = true
       · simp only [if_pos hi,frzL_run,putCells_run]
         unfold addRd
         rfl
       · simp only [if_neg hi,putCells_run]
         unfold addRd
         rfl
   · simp only [if_neg h]; rfl
def lenR (P : Program) (t : TypeId) (x : AV) (H : NL ABlk) : Option (Out AV) := (lenXA P t x).run H
def indexAddrR (P : Program) (t : TypeId) (x ix : AV) (H : NL ABlk) : Option (Out AV) := (indexAddrA P t x ix).run H
theorem lenR_eq (P : Program) (t : TypeId) (x : AV) (H : NL ABlk) : lenR P t x H = match P.underlying t,x with
   | some (.slice _), .nils=>some ⟨.int .i64 0,H,[],[],True⟩
   | some (.slice _), .list _ rows=>some ⟨.int .i64 rows.length,H,[],[],rows.length ≤ maxLen ∧ True⟩
   | some (.slice _), .sl id g _ len=>match lk H id with
     | some b=>if b.gen = g then some ⟨.int .i64 len,H,[id],[],len ≤ maxLen ∧ True⟩ else none
     | none=>if 0 = g then some ⟨.int .i64 len,H,[id],[],len ≤ maxLen ∧ True⟩ else none
   | some (.slice _), .slc _ _ _ len _=>some ⟨.int .i64 len,H,[],[],len ≤ maxLen ∧ True⟩
   | some .string, .str s=>some ⟨.int .i64 s.size,H,[],[],True⟩
   | some (.array _ _), .slc _ _ _ _ _=>none
   | some (.array n _),_=>some ⟨.int .i64 n,H,[],[],True⟩
   | _,_=>none:=by
 unfold lenR lenXA lenA lenCA
 cases P.underlying t with
 | none=>cases x <;> rfl
 | some d =>
   cases d with
   | slice elem =>
     cases x with
     | sl i g off len =>
       simp only [AP.run]
       cases hb : lk H i with
       | none =>
         dsimp only
         by_cases h : 0 = g
         · simp [h,AP.run]
         · simp [h,AP.run]
       | some b =>
         dsimp only
         by_cases h : b.gen = g
         · simp [h,AP.run]
         · simp [h,AP.run]
     | _=>rfl
   | string=>cases x <;> rfl
   | array n e=>cases x <;> rfl
   | _=>cases x <;> rfl
theorem indexAddrR_eq (P : Program) (t : TypeId) (x : AV) (k : IntKind) (n : Int) (H : NL ABlk) : indexAddrR P t x (.int k n) H = if 0 ≤ n then
     match P.underlying t with
     | some (.slice elem)=>match x with
       | .list size rows=>match rows[n.toNat]? with
         | some row=>if szOf P elem = some size then some ⟨.cptr row,H,[],[],True⟩ else none
         | none=>none
       | .sl id g off len=>if n < len then match lk H id with
           | some b=>if b.gen = g ∧ szOf P elem = some b.size then some ⟨.ptr id g (off + n.toNat) 0,H,[id],[],True⟩ else none
           | none=>if 0 = g ∧ szOf P elem = some ({} : ABlk).size then some ⟨.ptr id g (off + n.toNat) 0,H,[id],[],True⟩ else none
         else none
       | _=>none
     | some (.array len elem)=>if n < len then match szOf P elem with
         | some s=>match x with
           | .ptr id g r o=>some ⟨.ptr id g r (o + n.toNat * s),H,[],[],True⟩
           | .cptr cells=>some ⟨.cptr (cells.drop (n.toNat * s)),H,[],[],True⟩
           | _=>none
         | none=>none
       else none
     | _=>none
   else none:=by
 simp only [indexAddrR,indexAddrA]
 by_cases h : 0 ≤ n
 · simp only [if_pos h]
   cases P.underlying t with
   | none=>rfl
   | some d =>
     cases d with
     | slice elem =>
       dsimp only
       cases x with
       | list size rows =>
         dsimp only
         cases rows[n.toNat]? with
         | none=>rfl
         | some row =>
           dsimp only
           by_cases h2 : szOf P elem = some size
           · simp only [if_pos h2]; rfl
           · simp only [if_neg h2]; rfl
       | sl id g off len =>
         dsimp only
         by_cases h2 : n < len
         · simp only [if_pos h2,AP.run]
           cases hb : lk H id with
           | none =>
             dsimp only
             by_cases h3 : 0 = g ∧ szOf P elem = some ({} : ABlk).size
             · have h3' : ({} : ABlk).gen = g ∧ szOf P elem = some ({} : ABlk).size:=h3
               simp only [if_pos h3,if_pos h3',AP.run]
             · have h3' : ¬ (({} : ABlk).gen = g ∧ szOf P elem = some ({} : ABlk).size):=h3
               simp only [if_neg h3,if_neg h3',AP.run]
           | some b =>
             dsimp only
             by_cases h3 : b.gen = g ∧ szOf P elem = some b.size
             · simp only [if_pos h3,AP.run]
             · simp only [if_neg h3,AP.run]
         · simp only [if_neg h2]; rfl
       | _=>rfl
     | array len elem =>
       dsimp only
       by_cases h2 : n < len
       · simp only [if_pos h2]
         cases szOf P elem with
         | none=>rfl
         | some s=>cases x <;> rfl
       · simp only [if_neg h2]; rfl
     | _=>rfl
 · simp only [if_neg h]; rfl
def boxR (elem : TypeId) (dst : Nat) (x : AV) (H : NL ABlk) : Option (Out AV) := match x.cellsOf with
 | some cs=>if 0 < cs.length ∧ cs.all AV.cellish = true then some ⟨.ptr (newId dst) (genOf H (newId dst)) 0 0,st H (newId dst) { gen:=genOf H (newId dst),kind:=2,elem:=elem,size:=cs.length,inl:=false,rows:=[cs] },[newId dst],[newId dst],True⟩ else none
 | none=>none
theorem newRow_run (id : Nat) (elem : TypeId) (size : Nat) (inl : Bool) (rows : List (List AV)) (k : Nat → AV) (H : NL ABlk) : (newRowA id elem size inl rows k).run H =
   if 0 < size ∧ rows.all (fun r=>r.length == size && r.all fun x=>x.cellish && (!inl || x.isInl)) = true then some ⟨k (genOf H id),st H id { gen:=genOf H id,kind:=2,elem,size,inl,rows },[id],[id],True⟩ else none:=by
 simp only [newRowA,AP.run]
 have key : ∀ b : ABlk,b = (lk H id).getD {} → (if 0 < size ∧ rows.all (fun r=>r.length == size && r.all fun x=>x.cellish && (!inl || x.isInl)) = true then AP.put id { gen:=b.gen + 1,kind:=2,elem,size,inl,rows } (.ret (k (b.gen + 1))) else AP.fail).run H =
     if 0 < size ∧ rows.all (fun r=>r.length == size && r.all fun x=>x.cellish && (!inl || x.isInl)) = true then some ⟨k (genOf H id),st H id { gen:=genOf H id,kind:=2,elem,size,inl,rows },[],[id],True⟩ else none:=by
   intro b hb
   have hg : b.gen + 1 = genOf H id:=by rw [hb]; rfl
   by_cases h : 0 < size ∧ rows.all (fun r=>r.length == size && r.all fun x=>x.cellish && (!inl || x.isInl)) = true
   · simp only [if_pos h,AP.run,hg]
   · simp only [if_neg h,AP.run]
 cases hb : lk H id with
 | none =>
   dsimp only
   rw [key {} (by simp [hb])]
   by_cases h : 0 < size ∧ rows.all (fun r=>r.length == size && r.all fun x=>x.cellish && (!inl || x.isInl)) = true
   · simp only [if_pos h]
   · simp only [if_neg h]
 | some b =>
   dsimp only
   rw [key b (by simp [hb])]
   by_cases h : 0 < size ∧ rows.all (fun r=>r.length == size && r.all fun x=>x.cellish && (!inl || x.isInl)) = true
   · simp only [if_pos h]
   · simp only [if_neg h]
theorem box_run (elem : TypeId) (dst : Nat) (x : AV) (H : NL ABlk) : (boxA elem dst x).run H = boxR elem dst x H := by
 unfold boxA boxR
 cases x.cellsOf with
 | none=>rfl
 | some cs =>
   simp only [newRow_run]
   have : (∀ y : AV,(y.cellish && (!false || y.isInl)) = y.cellish):=by intro y; simp
   simp only [this,List.all_cons,List.all_nil,Bool.and_true,beq_self_eq_true,Bool.true_and]
def allocR (P : Program) (elem : TypeId) (dst : Nat) (H : NL ABlk) : Option (Out AV) := match zeroA P elem with
 | some x=>boxR elem dst x H
 | none=>none
theorem alloc_run (P : Program) (elem : TypeId) (dst : Nat) (H : NL ABlk) : (allocA P elem dst).run H = allocR P elem dst H := by
 unfold allocA allocR
 cases zeroA P elem with
 | none=>rfl
 | some x=>exact box_run elem dst x H
def sliceNewR (P : Program) (dst : Nat) (t : TypeId) (len : Nat) (parts : List (Nat × AV)) (H : NL ABlk) : Option (Out AV) := match P.underlying t with
 | some (.slice elem)=>match szOf P elem,(zeroA P elem).bind AV.cellsOf with
   | some s,some z=>if 0 < s ∧ z.length = s ∧ len * s ≤ 2 ^ 24 ∧ len ≤ maxLen then
       match sliceRows s len z parts with
       | some rows=>if rows.all (fun r=>r.length == s && r.all fun x=>x.cellish && x.isInl) = true then some ⟨.sl (newId dst) (genOf H (newId dst)) 0 len,st H (newId dst) { gen:=genOf H (newId dst),kind:=2,elem,size:=s,inl:=true,rows },[newId dst],[newId dst],True⟩ else none
       | none=>none
     else none
   | _,_=>none
 | _=>none
def buildSliceR (P : Program) (dst : Nat) (t : TypeId) (len : Nat) (parts : List (Nat × AV)) (H : NL ABlk) : Option (Out AV) :=
 if parts.all (fun p=>p.2.inl2) = true then sliceNewR P dst t len parts H else (buildSliceA P dst t len parts).run H
theorem buildSlice_run (P : Program) (dst : Nat) (t : TypeId) (len : Nat) (parts : List (Nat × AV)) (H : NL ABlk) : (buildSliceA P dst t len parts).run H = buildSliceR P dst t len parts H := by
 unfold buildSliceR
 split
 · rename_i h
   unfold buildSliceA sliceNewR
   rw [frzP_inl h]
   cases P.underlying t with
   | none=>rfl
   | some d =>
     cases d with
     | slice elem =>
       dsimp only
       cases szOf P elem with
       | none=>rfl
       | some s =>
         cases (zeroA P elem).bind AV.cellsOf with
         | none=>rfl
         | some z =>
           dsimp only
           by_cases h1 : 0 < s ∧ z.length = s ∧ len * s ≤ 2 ^ 24 ∧ len ≤ maxLen
           · simp only [if_pos h1]
             cases sliceRows s len z parts with
             | none=>rfl
             | some rows =>
               dsimp only
               rw [newRow_run]
               simp only [h1.1,true_and,Bool.not_true,Bool.false_or]
           · simp only [if_neg h1]; rfl
     | _=>rfl
 · rfl
def gatherR : Nat → List Nat → List (Nat × ABlk) → NL ABlk → Option (Out (List (Nat × ABlk)))
 | _,[],acc,H=>some ⟨acc,H,[],[],True⟩
 | 0,_ :: _,_,_=>none
 | n + 1,i :: r,acc,H=>if acc.any (fun p=>p.1 == i) then gatherR n r acc H else match lk H i with
   | some b=>if b.kind = 0 then none else addRd i (gatherR n (r ++ refsB b) (acc ++ [(i,b)]) H)
   | none=>none
theorem nxt_addRd {α β : Type} (i : Nat) (o : Option (Out α)) (f : α → NL ABlk → Option (Out β)) : nxt (addRd i o) f = addRd i (nxt o f) := by
 cases o with
 | none=>rfl
 | some o =>
   simp only [addRd,nxt,thn]
   cases f o.val o.H <;> simp
theorem gather_run {k : List (Nat × ABlk) → AP AV} {H : NL ABlk} : ∀ (n : Nat) (l : List Nat) (acc : List (Nat × ABlk)),(gather n l acc k).run H = nxt (gatherR n l acc H) fun L H => (k L).run H
 | 0,[],acc=>by simp [gather,gatherR,nxt]
 | n + 1,[],acc=>by simp [gather,gatherR,nxt]
 | 0,_ :: _,_=>by simp [gather,gatherR,nxt,AP.run]
 | n + 1,i :: r,acc=>by
   simp only [gather,gatherR]
   by_cases h : acc.any (fun p=>p.1 == i) = true
   · simp only [if_pos h]
     exact gather_run n r acc
   · simp only [if_neg h]
     rw [get_runR _ _ _ (by simp [AP.run])]
     cases lk H i with
     | none=>rfl
     | some b =>
       dsimp only
       by_cases h2 : b.kind = 0
       · simp only [if_pos h2]; rfl
       · simp only [if_neg h2]
         rw [gather_run n,nxt_addRd]
def addRds {α : Type} (l : List Nat) (o : Option (Out α)) : Option (Out α) := match o with
 | some o=>some ⟨o.val,o.H,l ++ o.rd,o.wr,o.as⟩
 | none=>none
theorem getGens_run {k : List Nat → AP AV} {H : NL ABlk} : ∀ (l acc : List Nat),(getGens l acc k).run H = addRds l ((k (acc ++ l.map (genOf H))).run H)
 | [],acc=>by simp only [getGens,List.map_nil,List.append_nil]; cases (k acc).run H <;> simp [addRds]
 | i :: r,acc=>by
   simp only [getGens,AP.run]
   have key : ∀ b : ABlk,b = (lk H i).getD {} → (getGens r (acc ++ [b.gen + 1]) k).run H = addRds r ((k (acc ++ (i :: r).map (genOf H))).run H):=by
     intro b hb
     rw [getGens_run r]
     have hg : b.gen + 1 = genOf H i:=by rw [hb]; rfl
     simp [hg]
   cases hb : lk H i with
   | none =>
     dsimp only
     rw [key {} (by simp [hb])]
     cases (k (acc ++ (i :: r).map (genOf H))).run H <;> simp [addRds]
   | some b =>
     dsimp only
     rw [key b (by simp [hb])]
     cases (k (acc ++ (i :: r).map (genOf H))).run H <;> simp [addRds]
theorem putsR_run (v : AV) : ∀ (l : List (Nat × ABlk)) (H : NL ABlk),(putsA l (.ret v)).run H = some ⟨v,puts H l,[],l.map (·.1),True⟩
 | [],H=>rfl
 | (i,b) :: r,H=>by simp only [putsA,AP.run,putsR_run v r,puts,List.map_cons]
def callBR (dst : Nat) (S : SpecFn) (args : List AV) (H : NL ABlk) : Option (Out AV) :=
 nxt (gatherR 64 (refsL args) [] H) fun L H=>match S (renL (fF L) args) (handB L) with
   | some (r,B) =>
     if L.length ≤ B.length ∧ (freshIds (newId dst) L (B.length - L.length)).length = B.length - L.length ∧ B.all (fun b=>b.gen == 0 || b.gen == 1 && b.kind == 2) ∧ (B.drop L.length).all (fun b=>decide (2 ≤ b.kind) && b.gen == 0) then
       addRds (freshIds (newId dst) L (B.length - L.length)) (some ⟨r.ren (backF (idsOf L B (freshIds (newId dst) L (B.length - L.length)) ((freshIds (newId dst) L (B.length - L.length)).map (genOf H))) B),
         puts H (backL (idsOf L B (freshIds (newId dst) L (B.length - L.length)) ((freshIds (newId dst) L (B.length - L.length)).map (genOf H))) B),[],
         (backL (idsOf L B (freshIds (newId dst) L (B.length - L.length)) ((freshIds (newId dst) L (B.length - L.length)).map (genOf H))) B).map (·.1),True⟩)
     else none
   | none=>none
theorem callB_run (dst : Nat) (S : SpecFn) (args : List AV) (H : NL ABlk) : (callB dst S args).run H = callBR dst S args H := by
 unfold callB callBR
 rw [gather_run]
 congr 1; funext L H'
 cases S (renL (fF L) args) (handB L) with
 | none=>rfl
 | some p =>
   obtain ⟨r,B⟩:=p
   dsimp only
   split
   · rw [getGens_run,List.nil_append,putsR_run]
   · rfl
def callR (P : Program) (specs : FuncId → Option Spec) (dst : Nat) (f : FuncId) (args : List AV) (H : NL ABlk) : Option (Out AV) := match specs f with
 | some ⟨0,S⟩=>nxt (listR (valR brw0R) args H) fun args' H'=>match S args' [] with
     | some (r,[])=>if r.flat then some ⟨r,H',[],[],True⟩ else none
     | _=>none
 | some ⟨2,S⟩=>(frqVs args fun args'=>callB dst S args').run H
 | some ⟨3,S⟩=>callBR dst S args H
 | some ⟨_,S⟩=>nxt (listR (valR frz0R) args H) fun args' H'=>match S args' [] with
     | some (r,news)=>if news.all (fun b=>b.inl && b.kind == 2) then
         (instA (newId dst) 0 news [] fun gs => .ret (r.ren (newF (newId dst) news gs))).run H'
       else none
     | none=>none
 | none=>(extA P f args).run H
theorem callX_run (P : Program) (specs : FuncId → Option Spec) (dst : Nat) (f : FuncId) (args : List AV) (H : NL ABlk) : (match specs f with
   | some _=>callX specs dst f args
   | none=>extA P f args).run H = callR P specs dst f args H:=by
 unfold callX callR
 cases hs : specs f with
 | none=>rfl
 | some s =>
   obtain ⟨m,S⟩:=s
   match m with
   | 0 =>
     simp only [callA,hs]
     rw [brwVs_run]
     congr 1; funext a H'
     cases S a [] with
     | none=>rfl
     | some p =>
       obtain ⟨r,B⟩:=p
       cases B with
       | nil =>
         dsimp only
         by_cases hf : r.flat = true
         · simp only [if_pos hf]; rfl
         · simp only [if_neg hf]; rfl
       | cons _ _=>rfl
   | 1 =>
     simp only [callA,hs]
     rw [frzVs_run]
     congr 1; funext a H'
     cases S a [] with
     | none=>rfl
     | some p =>
       obtain ⟨r,B⟩:=p
       dsimp only
       split
       · rfl
       · rfl
   | 2=>rfl
   | 3=>simp only [callB_run]
   | m + 4 =>
     simp only [callA,hs]
     rw [frzVs_run]
     congr 1; funext a H'
     cases S a [] with
     | none=>rfl
     | some p =>
       obtain ⟨r,B⟩:=p
       dsimp only
       split
       · rfl
       · rfl
def calledR (P : Program) (specs : FuncId → Option Spec) (dst : Nat) (fx : AV) (args : List AV) (H : NL ABlk) : Option (Out AV) := match fx with
 | .fn (.func f) first caps=>callR P specs dst f (first ++ args ++ caps) H
 | _=>none
def opR (P : Program) (specs : FuncId → Option Spec) (ρ : Operand → AV) (dst : Nat) (op : Op) (H : NL ABlk) : Option (Out AV) := match op with
 | .load t a=>loadR P t (ρ a) H
 | .store t a x=>storeR P t (ρ a) (ρ x) H
 | .alloc elem=>allocR P elem dst H
 | .box elem x=>boxR elem dst (ρ x) H
 | .indexAddr t x ix=>indexAddrR P t (ρ x) (ρ ix) H
 | .buildSlice t len parts=>buildSliceR P dst t len (parts.toList.map fun p=>(p.1, ρ p.2)) H
 | .call ⟨.value fx,args,_⟩=>calledR P specs dst (ρ fx) (args.toList.map ρ) H
 | .call ⟨.builtin .len,args,ts⟩=>match ts.toList,args.toList.map ρ with
   | [t],[x]=>lenR P t x H
   | _,_=>none
 | op=>(opC P specs ρ dst op).run H
theorem opR_eq (P : Program) (specs : FuncId → Option Spec) (ρ : Operand → AV) (dst : Nat) (op : Op) (H : NL ABlk) : (opC P specs ρ dst op).run H = opR P specs ρ dst op H := by
 unfold opR
 split
 · rfl
 · rfl
 · exact alloc_run ..
 · exact box_run ..
 · rfl
 · exact buildSlice_run ..
 · simp only [opC,calledR]
   split
   · rename_i h; rw [h]; exact callX_run ..
   · rename_i h
     split
     · rename_i h2; exact absurd h2 (h _ _ _)
     · rfl
 · simp only [opC,builtinA]
   split
   · rename_i h1 h2; rw [h1,h2]; rfl
   · rename_i h
     split
     · rename_i h1 h2; exact absurd h2 (h _ _ h1)
     · rfl
 · rfl
theorem execA_eq (P : Program) (specs : FuncId → Option Spec) (kk : Nat) (σ : AS) (o : Oper) : execA P specs kk σ o = match opR P specs σ.ev (o.dst.getD 0 + kk) o.op σ.heap with
   | some out=>match putA σ o.dst out.val with
     | some ts=>some ({ σ with tmps:=ts,heap:=out.H },⟨out.rd,out.wr,out.as⟩)
     | none=>none
   | none=>none:=by
 unfold execA
 rw [opR_eq]
 rfl
@[simp ↓] theorem nxt_def {α β : Type} (o : Option (Out α)) (f : α → NL ABlk → Option (Out β)) : nxt o f = match o with
   | some o=>thn o (f o.val o.H)
   | none=>none:=rfl
@[simp] theorem addRd_some {α : Type} (id : Nat) (o : Out α) : addRd id (some o) = some ⟨o.val,o.H,id :: o.rd,o.wr,o.as⟩ := rfl
@[simp] theorem addRd_none {α : Type} (id : Nat) : addRd id (none : Option (Out α)) = none := rfl
@[simp] theorem addRds_some {α : Type} (l : List Nat) (o : Out α) : addRds l (some o) = some ⟨o.val,o.H,l ++ o.rd,o.wr,o.as⟩ := rfl
@[simp] theorem mapO_some {α β : Type} (f : α → β) (o : Out α) : mapO f (some o) = some ⟨f o.val,o.H,o.rd,o.wr,o.as⟩ := rfl
@[simp] theorem mapO_none {α β : Type} (f : α → β) : mapO f (none : Option (Out α)) = none := rfl
attribute [simp high] listR_brwV listR_frzV
attribute [simp] loadR_ptr loadR_cptr storeR_ptr putCellsR lenR_eq indexAddrR_eq boxR allocR buildSliceR sliceNewR callBR gatherR frz0R_sl brw0R_sl frz0R_inl brw0R_inl listR genOf puts
theorem listR_brw0 {l : List AV} (h : l.all AV.isInl = true) (H : NL ABlk) : listR brw0R l H = some ⟨l,H,[],[],True⟩ := listR_inl brw0R_inl h H
theorem listR_frz0 {l : List AV} (h : l.all AV.isInl = true) (H : NL ABlk) : listR frz0R l H = some ⟨l,H,[],[],True⟩ := listR_inl frz0R_inl h H
attribute [simp high] listR_brw0 listR_frz0
@[simp] theorem valR_agg (q : AV → NL ABlk → Option (Out AV)) (cs : List AV) (H : NL ABlk) : valR q (.agg cs) H = mapO AV.agg (listR q cs H) := rfl
@[simp] theorem valR_tup (q : AV → NL ABlk → Option (Out AV)) (cs : List AV) (H : NL ABlk) : valR q (.tup cs) H = mapO AV.tup (listR q cs H) := rfl
@[simp] theorem valR_fn (q : AV → NL ABlk → Option (Out AV)) (f : Fn) (H : NL ABlk) : valR q (.fn f [] []) H = some ⟨.fn f [] [],H,[],[],True⟩ := by simp [valR,listR]
@[simp] theorem valR_sl (q : AV → NL ABlk → Option (Out AV)) (i g o l : Nat) (H : NL ABlk) : valR q (.sl i g o l) H = q (.sl i g o l) H := rfl
theorem valR_brw {x : AV} (h : x.isInl = true) (H : NL ABlk) : valR brw0R x H = some ⟨x,H,[],[],True⟩ := by
 cases x <;> first
   | exact brw0R_inl h H
   | (rename_i f a b
      cases a <;> cases b <;> first
        | exact valR_fn _ _ _
        | cases h)
   | cases h
theorem valR_frz {x : AV} (h : x.isInl = true) (H : NL ABlk) : valR frz0R x H = some ⟨x,H,[],[],True⟩ := by
 cases x <;> first
   | exact frz0R_inl h H
   | (rename_i f a b
      cases a <;> cases b <;> first
        | exact valR_fn _ _ _
        | cases h)
   | cases h
attribute [simp] valR_brw valR_frz
def buildR (P : Program) (t : TypeId) (parts : List (Nat × AV)) (H : NL ABlk) : Option (Out AV) := (buildA P t parts).run H
def makeSliceR (P : Program) (dst : Nat) (t : TypeId) (l c : AV) (H : NL ABlk) : Option (Out AV) := (makeSliceA P dst t l c).run H
def lookupR (P : Program) (t : TypeId) (m x : AV) (ok : Bool) (H : NL ABlk) : Option (Out AV) := (lookupA P t m x ok).run H
def mapUpdateR (P : Program) (t : TypeId) (m x v : AV) (H : NL ABlk) : Option (Out AV) := (mapUpdateA P t m x v).run H
def sliceOpR (P : Program) (t : TypeId) (x : AV) (lo hi : Option AV) (H : NL ABlk) : Option (Out AV) := (sliceArrA P t x lo hi).run H
def appendR (P : Program) (dst : Nat) (ts : List TypeId) (xs : List AV) (H : NL ABlk) : Option (Out AV) := (builtinA P dst .append ts xs).run H
def binR (P : Program) (op : BinOp) (t : TypeId) (x y : AV) (H : NL ABlk) : Option (Out AV) := (binA P op t x y).run H
attribute [simp] buildR makeSliceR lookupR mapUpdateR sliceOpR
@[simp] theorem opR_move (P : Program) (specs : FuncId → Option Spec) (ρ : Operand → AV) (dst : Nat) (x : Operand) (H : NL ABlk) : opR P specs ρ dst (.move x) H = some ⟨ρ x,H,[],[],True⟩ := rfl
@[simp] theorem opR_assign (P : Program) (specs : FuncId → Option Spec) (ρ : Operand → AV) (dst : Nat) (x : Operand) (H : NL ABlk) : opR P specs ρ dst (.assign x) H = some ⟨ρ x,H,[],[],True⟩ := rfl
@[simp] theorem opR_pick (P : Program) (specs : FuncId → Option Spec) (ρ : Operand → AV) (dst : Nat) (c : Operand) (a : Operand) (b : Operand) (H : NL ABlk) : opR P specs ρ dst (.pick c a b) H = (pickA (ρ c) (ρ a) (ρ b)).run H := rfl
@[simp] theorem opR_alloc (P : Program) (specs : FuncId → Option Spec) (ρ : Operand → AV) (dst : Nat) (elem : TypeId) (H : NL ABlk) : opR P specs ρ dst (.alloc elem) H = allocR P elem dst H := rfl
@[simp] theorem opR_box (P : Program) (specs : FuncId → Option Spec) (ρ : Operand → AV) (dst : Nat) (elem : TypeId) (x : Operand) (H : NL ABlk) : opR P specs ρ dst (.box elem x) H = boxR elem dst (ρ x) H := rfl
@[simp] theorem opR_build (P : Program) (specs : FuncId → Option Spec) (ρ : Operand → AV) (dst : Nat) (t : TypeId) (parts : Array (Nat × Operand)) (H : NL ABlk) : opR P specs ρ dst (.build t parts) H = buildR P t (parts.toList.map fun p => (p.1, ρ p.2)) H := rfl
@[simp] theorem opR_buildSlice (P : Program) (specs : FuncId → Option Spec) (ρ : Operand → AV) (dst : Nat) (t : TypeId) (len : Nat) (parts : Array (Nat × Operand)) (H : NL ABlk) : opR P specs ρ dst (.buildSlice t len parts) H = buildSliceR P dst t len (parts.toList.map fun p => (p.1, ρ p.2)) H := rfl
@[simp] theorem opR_load (P : Program) (specs : FuncId → Option Spec) (ρ : Operand → AV) (dst : Nat) (t : TypeId) (a : Operand) (H : NL ABlk) : opR P specs ρ dst (.load t a) H = loadR P t (ρ a) H := rfl
@[simp] theorem opR_store (P : Program) (specs : FuncId → Option Spec) (ρ : Operand → AV) (dst : Nat) (t : TypeId) (a : Operand) (x : Operand) (H : NL ABlk) : opR P specs ρ dst (.store t a x) H = storeR P t (ρ a) (ρ x) H := rfl
@[simp] theorem opR_nilCheck (P : Program) (specs : FuncId → Option Spec) (ρ : Operand → AV) (dst : Nat) (x : Operand) (H : NL ABlk) : opR P specs ρ dst (.nilCheck x) H = (nilCheckA (ρ x)).run H := rfl
@[simp] theorem opR_binOp (P : Program) (specs : FuncId → Option Spec) (ρ : Operand → AV) (dst : Nat) (o : BinOp) (t : TypeId) (x : Operand) (y : Operand) (ty : TypeId) (H : NL ABlk) : opR P specs ρ dst (.binOp o t x y ty) H = binR P o t (ρ x) (ρ y) H := rfl
@[simp] theorem opR_unOp (P : Program) (specs : FuncId → Option Spec) (ρ : Operand → AV) (dst : Nat) (o : UnOp) (t : TypeId) (x : Operand) (H : NL ABlk) : opR P specs ρ dst (.unOp o t x) H = (unOpA o (ρ x)).run H := rfl
@[simp] theorem opR_convert (P : Program) (specs : FuncId → Option Spec) (ρ : Operand → AV) (dst : Nat) (src : TypeId) (d : TypeId) (x : Operand) (H : NL ABlk) : opR P specs ρ dst (.convert src d x) H = (convertA P src d (ρ x)).run H := rfl
@[simp] theorem opR_makeFunc (P : Program) (specs : FuncId → Option Spec) (ρ : Operand → AV) (dst : Nat) (fn : Fn) (first : Array Operand) (captured : Array Operand) (H : NL ABlk) : opR P specs ρ dst (.makeFunc fn first captured) H = some ⟨.fn fn (first.toList.map ρ) (captured.toList.map ρ),H,[],[],True⟩ := rfl
@[simp] theorem opR_makeSlice (P : Program) (specs : FuncId → Option Spec) (ρ : Operand → AV) (dst : Nat) (t : TypeId) (l : Operand) (c : Operand) (H : NL ABlk) : opR P specs ρ dst (.makeSlice t l c) H = makeSliceR P dst t (ρ l) (ρ c) H := rfl
@[simp] theorem opR_fieldAddr (P : Program) (specs : FuncId → Option Spec) (ρ : Operand → AV) (dst : Nat) (sx : TypeId) (x : Operand) (f : Nat) (H : NL ABlk) : opR P specs ρ dst (.fieldAddr sx x f) H = (fieldAddrA P sx f (ρ x)).run H := rfl
@[simp] theorem opR_field (P : Program) (specs : FuncId → Option Spec) (ρ : Operand → AV) (dst : Nat) (t : TypeId) (x : Operand) (f : Nat) (H : NL ABlk) : opR P specs ρ dst (.field t x f) H = (fieldA P t f (ρ x)).run H := rfl
@[simp] theorem opR_indexAddr (P : Program) (specs : FuncId → Option Spec) (ρ : Operand → AV) (dst : Nat) (t : TypeId) (x : Operand) (ix : Operand) (H : NL ABlk) : opR P specs ρ dst (.indexAddr t x ix) H = indexAddrR P t (ρ x) (ρ ix) H := rfl
@[simp] theorem opR_index (P : Program) (specs : FuncId → Option Spec) (ρ : Operand → AV) (dst : Nat) (t : TypeId) (x : Operand) (ix : Operand) (H : NL ABlk) : opR P specs ρ dst (.index t x ix) H = (indexA P t (ρ x) (ρ ix)).run H := rfl
@[simp] theorem opR_extract (P : Program) (specs : FuncId → Option Spec) (ρ : Operand → AV) (dst : Nat) (t : Operand) (ix : Nat) (H : NL ABlk) : opR P specs ρ dst (.extract t ix) H = (extractA (ρ t) ix).run H := rfl
@[simp] theorem opR_lookup (P : Program) (specs : FuncId → Option Spec) (ρ : Operand → AV) (dst : Nat) (t : TypeId) (m : Operand) (x : Operand) (ok : Bool) (H : NL ABlk) : opR P specs ρ dst (.lookup t m x ok) H = lookupR P t (ρ m) (ρ x) ok H := rfl
@[simp] theorem opR_sliceToArrayPointer (P : Program) (specs : FuncId → Option Spec) (ρ : Operand → AV) (dst : Nat) (t : TypeId) (x : Operand) (H : NL ABlk) : opR P specs ρ dst (.sliceToArrayPointer t x) H = (arrayAtA P t (ρ x)).run H := rfl
@[simp] theorem opR_mapUpdate (P : Program) (specs : FuncId → Option Spec) (ρ : Operand → AV) (dst : Nat) (t : TypeId) (m : Operand) (x : Operand) (v : Operand) (H : NL ABlk) : opR P specs ρ dst (.mapUpdate t m x v) H = mapUpdateR P t (ρ m) (ρ x) (ρ v) H := rfl
@[simp] theorem opR_insert (P : Program) (specs : FuncId → Option Spec) (ρ : Operand → AV) (dst : Nat) (t : TypeId) (m : Operand) (x : Operand) (v : Operand) (H : NL ABlk) : opR P specs ρ dst (.insert t m x v) H = mapUpdateR P t (ρ m) (ρ x) (ρ v) H := rfl
@[simp] theorem opR_makeMap (P : Program) (specs : FuncId → Option Spec) (ρ : Operand → AV) (dst : Nat) (t : TypeId) (r : Option Operand) (H : NL ABlk) : opR P specs ρ dst (.makeMap t r) H = (makeMapA dst (r.map ρ)).run H := rfl
@[simp] theorem opR_slice (P : Program) (specs : FuncId → Option Spec) (ρ : Operand → AV) (dst : Nat) (t : TypeId) (x : Operand) (lo hi : Option Operand) (H : NL ABlk) : opR P specs ρ dst (.slice t x lo hi none) H = sliceOpR P t (ρ x) (lo.map ρ) (hi.map ρ) H := rfl
@[simp] theorem opR_call (P : Program) (specs : FuncId → Option Spec) (ρ : Operand → AV) (dst : Nat) (fx : Operand) (args : Array Operand) (ts : Array TypeId) (H : NL ABlk) : opR P specs ρ dst (.call ⟨.value fx,args,ts⟩) H = calledR P specs dst (ρ fx) (args.toList.map ρ) H := rfl
@[simp] theorem calledR_fn (P : Program) (specs : FuncId → Option Spec) (dst : Nat) (f : FuncId) (args : List AV) (H : NL ABlk) : calledR P specs dst (.fn (.func f) [] []) args H = callR P specs dst f args H := by
 simp [calledR]
@[simp low] theorem calledR_eq (P : Program) (specs : FuncId → Option Spec) (dst : Nat) (f : FuncId) (a b args : List AV) (H : NL ABlk) : calledR P specs dst (.fn (.func f) a b) args H = callR P specs dst f (a ++ args ++ b) H := rfl
attribute [simp] callR
def lenOpR (P : Program) (ts : List TypeId) (xs : List AV) (H : NL ABlk) : Option (Out AV) := match ts,xs with
 | [t],[x]=>lenR P t x H
 | _,_=>none
@[simp] theorem lenOpR_eq (P : Program) (t : TypeId) (x : AV) (H : NL ABlk) : lenOpR P [t] [x] H = lenR P t x H := rfl
@[simp] theorem opR_len (P : Program) (specs : FuncId → Option Spec) (ρ : Operand → AV) (dst : Nat) (args : Array Operand) (ts : Array TypeId) (H : NL ABlk) : opR P specs ρ dst (.call ⟨.builtin .len,args,ts⟩) H = lenOpR P ts.toList (args.toList.map ρ) H := rfl
@[simp] theorem opR_append (P : Program) (specs : FuncId → Option Spec) (ρ : Operand → AV) (dst : Nat) (args : Array Operand) (ts : Array TypeId) (H : NL ABlk) : opR P specs ρ dst (.call ⟨.builtin .append,args,ts⟩) H = appendR P dst ts.toList (args.toList.map ρ) H := rfl
@[simp] theorem opR_min (P : Program) (specs : FuncId → Option Spec) (ρ : Operand → AV) (dst : Nat) (args : Array Operand) (ts : Array TypeId) (H : NL ABlk) : opR P specs ρ dst (.call ⟨.builtin .min,args,ts⟩) H = (mmA false (args.toList.map ρ)).run H := rfl
@[simp] theorem opR_max (P : Program) (specs : FuncId → Option Spec) (ρ : Operand → AV) (dst : Nat) (args : Array Operand) (ts : Array TypeId) (H : NL ABlk) : opR P specs ρ dst (.call ⟨.builtin .max,args,ts⟩) H = (mmA true (args.toList.map ρ)).run H := rfl
@[simp] theorem binR_add (P : Program) (t : TypeId) (k : IntKind) (a b : Int) (H : NL ABlk) : binR P .add t (.int k a) (.int k b) H = some ⟨.int k (k.wrap (a + b)),H,[],[],True⟩ := by simp [binR,binA,binOpA,AP.run]
@[simp] theorem binR_sub (P : Program) (t : TypeId) (k : IntKind) (a b : Int) (H : NL ABlk) : binR P .sub t (.int k a) (.int k b) H = some ⟨.int k (k.wrap (a - b)),H,[],[],True⟩ := by simp [binR,binA,binOpA,AP.run]
@[simp] theorem binR_mul (P : Program) (t : TypeId) (k : IntKind) (a b : Int) (H : NL ABlk) : binR P .mul t (.int k a) (.int k b) H = some ⟨.int k (k.wrap (a * b)),H,[],[],True⟩ := by simp [binR,binA,binOpA,AP.run]
@[simp] theorem binR_and (P : Program) (t : TypeId) (k : IntKind) (a b : Int) (H : NL ABlk) : binR P .and t (.int k a) (.int k b) H = some ⟨.int k (k.wrap (BitVec.ofInt k.bits a &&& BitVec.ofInt k.bits b).toNat),H,[],[],True⟩ := by simp [binR,binA,binOpA,AP.run]
@[simp] theorem binR_or (P : Program) (t : TypeId) (k : IntKind) (a b : Int) (H : NL ABlk) : binR P .or t (.int k a) (.int k b) H = some ⟨.int k (k.wrap (BitVec.ofInt k.bits a ||| BitVec.ofInt k.bits b).toNat),H,[],[],True⟩ := by simp [binR,binA,binOpA,AP.run]
@[simp] theorem binR_xor (P : Program) (t : TypeId) (k : IntKind) (a b : Int) (H : NL ABlk) : binR P .xor t (.int k a) (.int k b) H = some ⟨.int k (k.wrap (BitVec.ofInt k.bits a ^^^ BitVec.ofInt k.bits b).toNat),H,[],[],True⟩ := by simp [binR,binA,binOpA,AP.run]
@[simp] theorem binR_andNot (P : Program) (t : TypeId) (k : IntKind) (a b : Int) (H : NL ABlk) : binR P .andNot t (.int k a) (.int k b) H = some ⟨.int k (k.wrap (BitVec.ofInt k.bits a &&& ~~~ BitVec.ofInt k.bits b).toNat),H,[],[],True⟩ := by simp [binR,binA,binOpA,AP.run]
@[simp] theorem binR_eql (P : Program) (t : TypeId) (k : IntKind) (a b : Int) (H : NL ABlk) : binR P .eql t (.int k a) (.int k b) H = some ⟨.bool (a == b),H,[],[],True⟩ := by simp [binR,binA,binOpA,AP.run]
@[simp] theorem binR_neq (P : Program) (t : TypeId) (k : IntKind) (a b : Int) (H : NL ABlk) : binR P .neq t (.int k a) (.int k b) H = some ⟨.bool (a != b),H,[],[],True⟩ := by simp [binR,binA,binOpA,AP.run]
@[simp] theorem binR_lss (P : Program) (t : TypeId) (k : IntKind) (a b : Int) (H : NL ABlk) : binR P .lss t (.int k a) (.int k b) H = some ⟨.bool (a < b),H,[],[],True⟩ := by simp [binR,binA,binOpA,AP.run]
@[simp] theorem binR_leq (P : Program) (t : TypeId) (k : IntKind) (a b : Int) (H : NL ABlk) : binR P .leq t (.int k a) (.int k b) H = some ⟨.bool (a ≤ b),H,[],[],True⟩ := by simp [binR,binA,binOpA,AP.run]
@[simp] theorem binR_gtr (P : Program) (t : TypeId) (k : IntKind) (a b : Int) (H : NL ABlk) : binR P .gtr t (.int k a) (.int k b) H = some ⟨.bool (a > b),H,[],[],True⟩ := by simp [binR,binA,binOpA,AP.run]
@[simp] theorem binR_geq (P : Program) (t : TypeId) (k : IntKind) (a b : Int) (H : NL ABlk) : binR P .geq t (.int k a) (.int k b) H = some ⟨.bool (a ≥ b),H,[],[],True⟩ := by simp [binR,binA,binOpA,AP.run]
@[simp] theorem binR_quo (P : Program) (t : TypeId) (k : IntKind) (a b : Int) (H : NL ABlk) : binR P .quo t (.int k a) (.int k b) H = if b = 0 then none else some ⟨.int k (k.wrap (a.tdiv b)),H,[],[],True⟩ := by
 simp only [binR,binA,binOpA]
 by_cases h : b = 0 <;> simp [h,AP.run]
@[simp] theorem binR_rem (P : Program) (t : TypeId) (k : IntKind) (a b : Int) (H : NL ABlk) : binR P .rem t (.int k a) (.int k b) H = if b = 0 then none else some ⟨.int k (a.tmod b),H,[],[],True⟩ := by
 simp only [binR,binA,binOpA]
 by_cases h : b = 0 <;> simp [h,AP.run]
@[simp] theorem binR_shl (P : Program) (t : TypeId) (k k' : IntKind) (a b : Int) (H : NL ABlk) : binR P .shl t (.int k a) (.int k' b) H = if 0 ≤ b then some ⟨.int k (k.wrap (a * 2 ^ min b.toNat k.bits)),H,[],[],True⟩ else none := by
 simp only [binR,binA,binOpA]
 by_cases h : 0 ≤ b <;> simp [h,AP.run]
@[simp] theorem binR_shr (P : Program) (t : TypeId) (k k' : IntKind) (a b : Int) (H : NL ABlk) : binR P .shr t (.int k a) (.int k' b) H = if 0 ≤ b then some ⟨.int k (a.fdiv (2 ^ min b.toNat k.bits)),H,[],[],True⟩ else none := by
 simp only [binR,binA,binOpA]
 by_cases h : 0 ≤ b <;> simp [h,AP.run]
@[simp] theorem binR_str (P : Program) (op : BinOp) (t : TypeId) (a b : ByteArray) (H : NL ABlk) : binR P op t (.str a) (.str b) H = (binOpA op (.str a) (.str b)).run H := rfl
@[simp] theorem binR_agg (P : Program) (op : BinOp) (t : TypeId) (a b : List AV) (H : NL ABlk) : binR P op t (.agg a) (.agg b) H = (eqlA P op t (.agg a) (.agg b)).run H := rfl
def boolT (P : Program) (t : TypeId) : Bool := match P.underlying t with
 | some .bool=>true
 | _=>false
theorem boolT_eq {P : Program} {t : TypeId} (h : boolT P t = true) : P.underlying t = some .bool := by
 unfold boolT at h
 split at h
 · assumption
 · cases h
@[simp high] theorem binR_eqb (P : Program) (t : TypeId) (a b : Bool) (H : NL ABlk) (h : boolT P t = true) : binR P .eql t (.bool a) (.bool b) H = some ⟨.bool (a == b),H,[],[],True⟩ := by
 simp [binR,binA,binOpA,eqlA,boolT_eq h,AP.run]
@[simp high] theorem binR_neb (P : Program) (t : TypeId) (a b : Bool) (H : NL ABlk) (h : boolT P t = true) : binR P .neq t (.bool a) (.bool b) H = some ⟨.bool (!(a == b)),H,[],[],True⟩ := by
 simp [binR,binA,binOpA,eqlA,boolT_eq h,AP.run]
@[simp] theorem binR_bool (P : Program) (op : BinOp) (t : TypeId) (a b : Bool) (H : NL ABlk) : binR P op t (.bool a) (.bool b) H = (eqlA P op t (.bool a) (.bool b)).run H := rfl
def frzTR (x : AV) (H : NL ABlk) : Option (Out AV) := match x with
 | .tup cs=>mapO AV.tup (listR (valR frz0R) cs H)
 | x=>valR frz0R x H
theorem frzT_runR (x : AV) (H : NL ABlk) : (frzT x .ret).run H = frzTR x H := by
 unfold frzT frzTR
 split
 · rw [frzVs_run]
   show nxt _ (fun x H=>some ⟨AV.tup x,H,[],[],True⟩) = _
   rw [nxt_ret]
 · rw [frzV_run]
   show nxt _ (fun x H=>some ⟨x,H,[],[],True⟩) = _
   rw [nxt_ret (f:=fun x=>x)]
   have hm : ∀ o : Option (Out AV),mapO (fun x=>x) o = o:=fun o=>by cases o <;> rfl
   rw [hm]
   split <;> simp_all
theorem Ret.dataR {P : Program} {fn : Func} {r : AV} {σ : AS} {xs : List AV} {H : NL ABlk} {rd wr : List Nat} {A : Prop} {rs : List ResultVar} (h0 : fn.results.toList = rs) (h1 : resVs P σ rs = some xs) (h2 : frzTR (pack xs) σ.heap = some ⟨r,H,rd,wr,A⟩) (h3 : inlT r = true) : Ret P fn r [] σ :=
 Ret.data h0 h1 ((frzT_runR _ _).trans h2) h3
attribute [simp] frzTR
theorem loadA_runR (P : Program) (t : TypeId) (x : AV) (H : NL ABlk) : (loadA P t x).run H = loadR P t x H := rfl
def apT (P : Program) (t : TypeId) : Option (TypeId × Nat × Nat) := match P.underlying t with
 | some (.slice elem)=>match P.info? elem with
   | some i=>if 0 < i.size ∧ (i.zero.map fun z=>z.cells.size) = some i.size then some (elem,i.size,i.bytes) else none
   | none=>none
 | _=>none
def rowsR (size : Nat) (x : AV) (H : NL ABlk) : Option (Out (List (List AV))) := match x with
 | .nils=>some ⟨[],H,[],[],True⟩
 | .list sz rows=>if sz = size then some ⟨rows,H,[],[],True⟩ else none
 | .sl id g off len=>match lk H id with
   | some b=>if b.gen = g ∧ (b.kind = 1 ∨ b.kind = 2) ∧ off + len ≤ b.rows.length ∧ b.size = size ∧ b.inl = true then some ⟨(b.rows.drop off).take len,H,[id],[],True⟩ else none
   | none=>none
 | .psl _ _ _ _ 0=>some ⟨[],H,[],[],True⟩
 | _=>none
theorem rows_run (size : Nat) (x : AV) (k : List (List AV) → AP AV) (H : NL ABlk) : (rowsA size x k).run H = nxt (rowsR size x H) fun r H => (k r).run H := by
 cases x with
 | nils=>simp [rowsA,rowsR,nxt]
 | list sz rows =>
   by_cases h : sz = size
   · simp [rowsA,rowsR,nxt,h]
   · simp [rowsA,rowsR,nxt,h,AP.run]
 | sl id g off len =>
   simp only [rowsA,rowsR]
   rw [get_runR _ _ _ (by simp [AP.run])]
   cases lk H id with
   | none=>rfl
   | some b =>
     dsimp only
     by_cases h : b.gen = g ∧ (b.kind = 1 ∨ b.kind = 2) ∧ off + len ≤ b.rows.length ∧ b.size = size ∧ b.inl = true
     · simp only [if_pos h]
       rw [show (some ⟨(b.rows.drop off).take len,H,[id],[],True⟩ : Option (Out (List (List AV)))) = addRd id (some ⟨(b.rows.drop off).take len,H,[],[],True⟩) from rfl,nxt_addRd,nxt_some]
     · simp only [if_neg h]; rfl
 | psl _ _ _ _ len =>
   cases len
   · simp [rowsA,rowsR,nxt]
   · rfl
 | _=>rfl
def growR (dst elem size bytes : Nat) (s : AV) (news : List (List AV)) (H : NL ABlk) : Option (Out AV) := match s with
 | .nils=>if news.length * bytes ≤ 140737488355328 ∧ news.length ≤ maxLen then
     some ⟨.sl (newId dst) (genOf H (newId dst)) 0 news.length,st H (newId dst) { gen:=genOf H (newId dst),kind:=2,elem,size,inl:=true,rows:=news },[newId dst],[newId dst],True⟩
   else none
 | .sl id g 0 len=>match lk H id with
   | some b=>if b.gen = g ∧ b.kind = 2 ∧ b.elem = elem ∧ b.size = size ∧ b.inl = true ∧ len ≤ b.rows.length ∧ (len + news.length) * bytes ≤ 140737488355328 ∧ len + news.length ≤ maxLen then
       some ⟨.sl id (b.gen + 1) 0 (len + news.length),st H id { gen:=b.gen + 1,kind:=2,elem,size,inl:=true,rows:=firstRows len b.rows ++ news },[id],[id],True⟩
     else none
   | none=>none
 | _=>none
def appendXR (P : Program) (dst : Nat) (t t' : TypeId) (s x : AV) (H : NL ABlk) : Option (Out AV) := match apT P t with
 | some (elem,size,bytes)=>if t = t' then nxt (rowsR size x H) fun news H'=>growR dst elem size bytes s news H' else none
 | none=>none
theorem append_run (P : Program) (dst : Nat) (t t' : TypeId) (s x : AV) (H : NL ABlk) : (appendA P dst t t' s x).run H = appendXR P dst t t' s x H := by
 unfold appendA appendXR apT
 cases P.underlying t with
 | none=>rfl
 | some d =>
   cases d with
   | slice elem =>
     dsimp only
     cases P.info? elem with
     | none=>rfl
     | some i =>
       dsimp only
       by_cases h1 : 0 < i.size ∧ (i.zero.map fun z=>z.cells.size) = some i.size
       · simp only [if_pos h1]
         by_cases h2 : t = t'
         · rw [if_pos ⟨h2,h1.1,h1.2⟩,if_pos h2,rows_run]
           congr 1; funext news H'
           cases s with
           | nils =>
             simp only [growR]
             split
             · simp only [AP.run]
               cases hb : lk H' (newId dst) with
               | none=>simp [genOf,hb]
               | some b=>simp [genOf,hb]
             · rfl
           | sl id g off len =>
             cases off with
             | zero =>
               simp only [growR]
               rw [get_runR _ _ _ (by simp [AP.run])]
               cases lk H' id with
               | none=>rfl
               | some b =>
                 dsimp only
                 by_cases h : b.gen = g ∧ b.kind = 2 ∧ b.elem = elem ∧ b.size = i.size ∧ b.inl = true ∧ len ≤ b.rows.length ∧ (len + news.length) * i.bytes ≤ 140737488355328 ∧ len + news.length ≤ maxLen
                 · simp only [if_pos h]; simp [AP.run]
                 · simp only [if_neg h]; rfl
             | succ n=>rfl
           | _=>rfl
         · rw [if_neg (fun h=>h2 h.1),if_neg h2]; rfl
       · rw [if_neg (fun h=>h1 ⟨h.2.1,h.2.2⟩)]
         simp only [if_neg h1]
         rfl
   | _=>rfl
def appendZR (P : Program) (dst : Nat) (t t' : TypeId) (s x : AV) (H : NL ABlk) : Option (Out AV) := match apT P t,P.underlying t',s,x with
 | some (elem,size,bytes),some (.int _), .slc id g off len cap, .int _ n=>match (zeroA P elem).bind AV.cellsOf,lk H id with
   | some z,some b =>
     if b.gen = g ∧ b.inl = true ∧ b.size = size ∧ off + len ≤ b.rows.length ∧ z.length = size ∧ z.all (fun x=>x.cellish && x.isInl) = true ∧ 0 < n ∧ cap < len + n.toNat ∧ (len + n.toNat) * bytes ≤ 140737488355328 ∧ len + n.toNat ≤ maxLen then
       some ⟨.sl (newId dst) (genOf H (newId dst)) 0 (len + n.toNat),st H (newId dst) { gen:=genOf H (newId dst),kind:=2,elem,size,inl:=true,rows:=(b.rows.drop off).take len ++ List.replicate n.toNat z },[id,newId dst],[newId dst],True⟩
     else none
   | _,_=>none
 | _,_,_,_=>none
theorem appendZ_run (P : Program) (dst : Nat) (t t' id g off len cap : Nat) (x : AV) (H : NL ABlk) (ht : (apT P t).isSome = true) : (appendZA P dst t t' (.slc id g off len cap) x).run H = appendZR P dst t t' (.slc id g off len cap) x H := by
 unfold apT at ht
 unfold appendZA appendZR apT
 split at ht
 · rename_i elem hu
   cases hi : P.info? elem with
   | none=>simp [hi] at ht
   | some i =>
     simp only [hi] at ht
     by_cases hs : 0 < i.size ∧ (i.zero.map fun z=>z.cells.size) = some i.size
     · simp only [hu,hi,if_pos hs]
       cases hu' : P.underlying t' with
       | none=>rfl
       | some d =>
         cases d <;> try rfl
         cases x <;> try rfl
         rename_i k n
         dsimp only
         cases hz : (zeroA P elem).bind AV.cellsOf with
         | none=>simp only [hi]; rfl
         | some z =>
           simp only [hi]
           rw [get_runR _ _ _ (by
             have h : ¬ (0 = i.size):=by omega
             simp [AP.run])]
           cases hb : lk H id with
           | none=>rfl
           | some b =>
             dsimp only
             by_cases hc : b.gen = g ∧ b.inl = true ∧ b.size = i.size ∧ off + len ≤ b.rows.length ∧ z.length = i.size ∧ z.all (fun x=>x.cellish && x.isInl) = true ∧ 0 < n ∧ cap < len + n.toNat ∧ (len + n.toNat) * i.bytes ≤ 140737488355328 ∧ len + n.toNat ≤ maxLen
             · obtain ⟨c1,c2,c3,c4,c5⟩:=hc
               rw [if_pos ⟨c1,c2,c3,c4,hs.1,c5⟩,if_pos ⟨c1,c2,c3,c4,c5⟩]
               simp only [AP.run,genOf]
               cases lk H (newId dst) <;> rfl
             · rw [if_neg (fun h=>hc ⟨h.1,h.2.1,h.2.2.1,h.2.2.2.1,h.2.2.2.2.2⟩),if_neg hc]
               rfl
     · rw [if_neg hs] at ht
       cases ht
 · cases ht
@[simp] theorem appendR_slc (P : Program) (dst : Nat) (t t' i g o l c : Nat) (k : IntKind) (n : Int) (H : NL ABlk) (ht : (apT P t).isSome = true) : appendR P dst [t,t'] [.slc i g o l c, .int k n] H = appendZR P dst t t' (.slc i g o l c) (.int k n) H :=
 appendZ_run P dst t t' i g o l c (.int k n) H ht
def appendCR (P : Program) (dst : Nat) (t t' : TypeId) (id g off len cap : Nat) (x : AV) (H : NL ABlk) : Option (Out AV) := match apT P t with
 | some (elem,size,bytes)=>if t = t' then nxt (rowsR size (unC x) H) fun news H'=>match lk H' id with
     | some b=>if b.gen = g ∧ b.kind = 2 ∧ b.elem = elem ∧ b.size = size ∧ b.inl = true ∧ off + len ≤ b.rows.length ∧ len + news.length ≤ cap then
         some ⟨.slc id g off (len + news.length) cap,st H' id { b with rows:=splice b.rows (off + len) news },[id],[id],True⟩
       else if b.gen = g ∧ b.elem = elem ∧ b.size = size ∧ b.inl = true ∧ off + len ≤ b.rows.length ∧ cap < len + news.length ∧ (len + news.length) * bytes ≤ 140737488355328 ∧ len + news.length ≤ maxLen then
         some ⟨.sl (newId dst) (genOf H' (newId dst)) 0 (len + news.length),st H' (newId dst) { gen:=genOf H' (newId dst),kind:=2,elem,size,inl:=true,rows:=(b.rows.drop off).take len ++ news },[id,newId dst],[newId dst],True⟩
       else none
     | none=>none
   else none
 | none=>none
theorem appendC_run (P : Program) (dst : Nat) (t t' id g off len cap : Nat) (x : AV) (H : NL ABlk) (ht : (apT P t).isSome = true) : (appendCA P dst t t' (.slc id g off len cap) x).run H = appendCR P dst t t' id g off len cap x H := by
 unfold apT at ht
 unfold appendCA appendCR apT
 split at ht
 · rename_i elem hu
   cases hi : P.info? elem with
   | none=>simp [hi] at ht
   | some i =>
     simp only [hi] at ht
     by_cases hs : 0 < i.size ∧ (i.zero.map fun z=>z.cells.size) = some i.size
     · simp only [hu,hi,if_pos hs]
       by_cases h2 : t = t'
       · rw [if_pos ⟨h2,hs.1⟩,if_pos h2,rows_run]
         congr 1; funext news H'
         rw [get_runR _ _ _ (by
           have h : ¬ (0 = i.size):=by omega
           simp [AP.run,h])]
         cases lk H' id with
         | none=>rfl
         | some b =>
           dsimp only
           by_cases h : b.gen = g ∧ b.kind = 2 ∧ b.elem = elem ∧ b.size = i.size ∧ b.inl = true ∧ off + len ≤ b.rows.length ∧ len + news.length ≤ cap
           · simp only [if_pos h]; simp [AP.run]
           · simp only [if_neg h]
             by_cases h3 : b.gen = g ∧ b.elem = elem ∧ b.size = i.size ∧ b.inl = true ∧ off + len ≤ b.rows.length ∧ cap < len + news.length ∧ (len + news.length) * i.bytes ≤ 140737488355328 ∧ len + news.length ≤ maxLen
             · obtain ⟨k1,k2,k3,k4,k5,k6,k7⟩:=h3
               rw [if_pos ⟨k1,k2,k3,k4,k5,k6,hs.2,k7⟩,if_pos ⟨k1,k2,k3,k4,k5,k6,k7⟩]
               simp only [AP.run,genOf]
               cases lk H' (newId dst) <;> rfl
             · rw [if_neg (fun h=>h3 ⟨h.1,h.2.1,h.2.2.1,h.2.2.2.1,h.2.2.2.2.1,h.2.2.2.2.2.1,h.2.2.2.2.2.2.2⟩),if_neg h3]; rfl
       · rw [if_neg (fun h=>h2 h.1),if_neg h2]; rfl
     · rw [if_neg hs] at ht
       cases ht
 · cases ht
@[simp] theorem appendR_slcL (P : Program) (dst : Nat) (t t' i g o l c s : Nat) (rows : List (List AV)) (H : NL ABlk) (ht : (apT P t).isSome = true) : appendR P dst [t,t'] [.slc i g o l c, .list s rows] H = appendCR P dst t t' i g o l c (.list s rows) H :=
 appendC_run P dst t t' i g o l c (.list s rows) H ht
@[simp] theorem appendR_slcC (P : Program) (dst : Nat) (t t' i g o l c i' g' o' l' c' : Nat) (H : NL ABlk) (ht : (apT P t).isSome = true) : appendR P dst [t,t'] [.slc i g o l c, .slc i' g' o' l' c'] H = appendCR P dst t t' i g o l c (.slc i' g' o' l' c') H :=
 appendC_run P dst t t' i g o l c (.slc i' g' o' l' c') H ht
@[simp] theorem appendR_slcS (P : Program) (dst : Nat) (t t' i g o l c i' g' o' l' : Nat) (H : NL ABlk) (ht : (apT P t).isSome = true) : appendR P dst [t,t'] [.slc i g o l c, .sl i' g' o' l'] H = appendCR P dst t t' i g o l c (.sl i' g' o' l') H :=
 appendC_run P dst t t' i g o l c (.sl i' g' o' l') H ht
@[simp low] theorem appendR_eq (P : Program) (dst : Nat) (t t' : TypeId) (s x : AV) (H : NL ABlk) : appendR P dst [t,t'] [s,x] H = match s with
   | .slc i g o l c=>(appendSA P dst t t' (.slc i g o l c) x).run H
   | s=>appendXR P dst t t' s x H:=by
 unfold appendR builtinA appendSA
 cases s <;> first
   | rfl
   | exact append_run ..
attribute [simp] appendXR rowsR growR appendZR appendCR unC
theorem apT_slice {P : Program} {t : TypeId} (h : (apT P t).isSome = true) : ∃ e,P.underlying t = some (.slice e) := by
 unfold apT at h
 split at h
 · rename_i e he; exact ⟨e,he⟩
 · cases h
@[simp] theorem binR_eql_nn (P : Program) (t : TypeId)  (H : NL ABlk) (h : (apT P t).isSome = true) : binR P .eql t .nils .nils H = some ⟨.bool true,H,[],[],True⟩ := by
 obtain ⟨e,he⟩:=apT_slice h
 simp [binR,binA,binOpA,eqlA,nilA,nilB,he,AP.run]
@[simp] theorem binR_eql_ln (P : Program) (t : TypeId) (s : Nat) (r : List AV) (l : List (List AV)) (H : NL ABlk) (h : (apT P t).isSome = true) : binR P .eql t (.list s (r :: l)) .nils H = some ⟨.bool false,H,[],[],True⟩ := by
 obtain ⟨e,he⟩:=apT_slice h
 simp [binR,binA,binOpA,eqlA,nilA,nilB,he,AP.run]
@[simp] theorem binR_eql_nl (P : Program) (t : TypeId) (s : Nat) (r : List AV) (l : List (List AV)) (H : NL ABlk) (h : (apT P t).isSome = true) : binR P .eql t .nils (.list s (r :: l)) H = some ⟨.bool false,H,[],[],True⟩ := by
 obtain ⟨e,he⟩:=apT_slice h
 simp [binR,binA,binOpA,eqlA,nilA,nilB,he,AP.run]
@[simp] theorem binR_eql_pn (P : Program) (t : TypeId) (i g r o l : Nat) (H : NL ABlk) (h : (apT P t).isSome = true) : binR P .eql t (.psl i g r o l) .nils H = some ⟨.bool false,H,[],[],True⟩ := by
 obtain ⟨e,he⟩:=apT_slice h
 simp [binR,binA,binOpA,eqlA,nilA,nilB,he,AP.run]
@[simp] theorem binR_neq_nn (P : Program) (t : TypeId)  (H : NL ABlk) (h : (apT P t).isSome = true) : binR P .neq t .nils .nils H = some ⟨.bool false,H,[],[],True⟩ := by
 obtain ⟨e,he⟩:=apT_slice h
 simp [binR,binA,binOpA,eqlA,nilA,nilB,he,AP.run]
@[simp] theorem binR_neq_ln (P : Program) (t : TypeId) (s : Nat) (r : List AV) (l : List (List AV)) (H : NL ABlk) (h : (apT P t).isSome = true) : binR P .neq t (.list s (r :: l)) .nils H = some ⟨.bool true,H,[],[],True⟩ := by
 obtain ⟨e,he⟩:=apT_slice h
 simp [binR,binA,binOpA,eqlA,nilA,nilB,he,AP.run]
@[simp] theorem binR_neq_nl (P : Program) (t : TypeId) (s : Nat) (r : List AV) (l : List (List AV)) (H : NL ABlk) (h : (apT P t).isSome = true) : binR P .neq t .nils (.list s (r :: l)) H = some ⟨.bool true,H,[],[],True⟩ := by
 obtain ⟨e,he⟩:=apT_slice h
 simp [binR,binA,binOpA,eqlA,nilA,nilB,he,AP.run]
@[simp] theorem binR_neq_pn (P : Program) (t : TypeId) (i g r o l : Nat) (H : NL ABlk) (h : (apT P t).isSome = true) : binR P .neq t (.psl i g r o l) .nils H = some ⟨.bool true,H,[],[],True⟩ := by
 obtain ⟨e,he⟩:=apT_slice h
 simp [binR,binA,binOpA,eqlA,nilA,nilB,he,AP.run]
@[simp] theorem binR_eql_sn (P : Program) (t : TypeId) (i g o l : Nat) (H : NL ABlk) (h : (apT P t).isSome = true) : binR P .eql t (.sl i g o (l + 1)) .nils H = (AP.get i fun b => if b.gen = g then .ret (.bool false) else .fail).run H := by
 obtain ⟨e,he⟩:=apT_slice h
 simp [binR,binA,binOpA,eqlA,nilA,nilB,he]
@[simp] theorem binR_neq_sn (P : Program) (t : TypeId) (i g o l : Nat) (H : NL ABlk) (h : (apT P t).isSome = true) : binR P .neq t (.sl i g o (l + 1)) .nils H = (AP.get i fun b => if b.gen = g then .ret (.bool true) else .fail).run H := by
 obtain ⟨e,he⟩:=apT_slice h
 simp [binR,binA,binOpA,eqlA,nilA,nilB,he]
def capOpR (P : Program) (ts : List TypeId) (xs : List AV) (H : NL ABlk) : Option (Out AV) := match ts,xs with
 | [t],[x]=>(capA P t x).run H
 | _,_=>none
@[simp] theorem capOpR_eq (P : Program) (t : TypeId) (x : AV) (H : NL ABlk) : capOpR P [t] [x] H = (capA P t x).run H := rfl
@[simp] theorem opR_cap (P : Program) (specs : FuncId → Option Spec) (ρ : Operand → AV) (dst : Nat) (args : Array Operand) (ts : Array TypeId) (H : NL ABlk) : opR P specs ρ dst (.call ⟨.builtin .cap,args,ts⟩) H = capOpR P ts.toList (args.toList.map ρ) H := by
 simp only [opR,opC,builtinA,capOpR]
 generalize ts.toList = a
 generalize List.map ρ args.toList = c
 rcases a with _ | ⟨_,_ | ⟨_,_ | ⟨_,_⟩⟩⟩ <;> rcases c with _ | ⟨_,_ | ⟨_,_ | ⟨_,_⟩⟩⟩ <;> rfl
def clearOpR (P : Program) (ts : List TypeId) (xs : List AV) (H : NL ABlk) : Option (Out AV) := match ts,xs with
 | [t],[x]=>(clearA P t x).run H
 | _,_=>none
@[simp] theorem clearOpR_eq (P : Program) (t : TypeId) (x : AV) (H : NL ABlk) : clearOpR P [t] [x] H = (clearA P t x).run H := rfl
@[simp] theorem opR_clear (P : Program) (specs : FuncId → Option Spec) (ρ : Operand → AV) (dst : Nat) (args : Array Operand) (ts : Array TypeId) (H : NL ABlk) : opR P specs ρ dst (.call ⟨.builtin .clear,args,ts⟩) H = clearOpR P ts.toList (args.toList.map ρ) H := by
 simp only [opR,opC,builtinA,clearOpR]
 generalize ts.toList = a
 generalize List.map ρ args.toList = c
 rcases a with _ | ⟨_,_ | ⟨_,_ | ⟨_,_⟩⟩⟩ <;> rcases c with _ | ⟨_,_ | ⟨_,_ | ⟨_,_⟩⟩⟩ <;> rfl
def copyOpR (P : Program) (ts : List TypeId) (xs : List AV) (H : NL ABlk) : Option (Out AV) := match ts,xs with
 | [t,_],[d,s]=>(copyA P t d s).run H
 | _,_=>none
@[simp] theorem copyOpR_eq (P : Program) (t t' : TypeId) (d s : AV) (H : NL ABlk) : copyOpR P [t,t'] [d,s] H = (copyA P t d s).run H := rfl
@[simp] theorem opR_copy (P : Program) (specs : FuncId → Option Spec) (ρ : Operand → AV) (dst : Nat) (args : Array Operand) (ts : Array TypeId) (H : NL ABlk) : opR P specs ρ dst (.call ⟨.builtin .copy,args,ts⟩) H = copyOpR P ts.toList (args.toList.map ρ) H := by
 simp only [opR,opC,builtinA,copyOpR]
 generalize ts.toList = a
 generalize List.map ρ args.toList = c
 rcases a with _ | ⟨_,_ | ⟨_,_ | ⟨_,_⟩⟩⟩ <;> rcases c with _ | ⟨_,_ | ⟨_,_ | ⟨_,_⟩⟩⟩ <;> rfl
@[simp] theorem opR_slice3 (P : Program) (specs : FuncId → Option Spec) (ρ : Operand → AV) (dst : Nat) (t : TypeId) (x : Operand) (lo hi : Option Operand) (m : Operand) (H : NL ABlk) : opR P specs ρ dst (.slice t x lo hi (some m)) H = (slice3A P t (ρ x) (lo.map ρ) (hi.map ρ) (ρ m)).run H := rfl
end
end Go.Abs
namespace Go.Abs
open Go
section
variable {P : Program} {Q : AS → Prop}
theorem W.cut {c : Code} {fs : List Fr} {σ : AS} (hc : c = .seq (cL c) (cR c)) (M : AS → Prop) (h1 : W P Q (cL c) (.loop M :: fs) σ) (h2 : ∀ σ',M σ' → W P Q (cR c) fs σ') : W P Q c fs σ := by
 refine ⟨?_⟩
 rw [hc]
 refine WP.seq (h1.h.mono fun e σ h=>?_)
 cases e with
 | normal=>exact (h2 σ h).h
 | _=>exact h
def partsR : List (Nat × AV) → NL ABlk → Option (Out (List (Nat × AV)))
 | [],H=>some ⟨[],H,[],[],True⟩
 | (i,x) :: r,H=>nxt (valR frz0R x H) fun x' H'=>nxt (partsR r H') fun r' H''=>some ⟨(i,x') :: r',H'',[],[],True⟩
theorem frzP_run : ∀ (l : List (Nat × AV)) (k : List (Nat × AV) → AP AV) (H : NL ABlk),(frzP l k).run H = nxt (partsR l H) fun x H => (k x).run H
 | [],k,H=>by simp [frzP,partsR]
 | (i,x) :: r,k,H=>by
   simp only [frzP,partsR,nxt_assoc,nxt_some]
   rw [frzV_run]
   congr 1; funext x' H'
   rw [frzP_run r]
@[simp ↓] theorem buildSliceA_runV (P : Program) (dst : Nat) (t : TypeId) (len : Nat) (parts : List (Nat × AV)) (H : NL ABlk) : (buildSliceA P dst t len parts).run H = nxt (partsR parts H) fun ps H' => sliceNewR P dst t len ps H' := by
 unfold buildSliceA
 rw [frzP_run]
 congr 1; funext ps H'
 unfold sliceNewR
 cases P.underlying t with
 | none=>rfl
 | some d =>
   cases d with
   | slice elem =>
     dsimp only
     cases szOf P elem with
     | none=>rfl
     | some s =>
       cases (zeroA P elem).bind AV.cellsOf with
       | none=>rfl
       | some z =>
         dsimp only
         by_cases h1 : 0 < s ∧ z.length = s ∧ len * s ≤ 2 ^ 24 ∧ len ≤ maxLen
         · simp only [if_pos h1]
           cases sliceRows s len z ps with
           | none=>rfl
           | some rows =>
             dsimp only
             rw [newRow_run]
             simp only [h1.1,true_and,Bool.not_true,Bool.false_or]
         · simp only [if_neg h1]; rfl
   | _=>rfl
attribute [simp] partsR
end
section
variable {P : Program}
def VP (P : Program) (c : Code) (Q : Exit → AS → Prop) (σ : AS) : Prop := ∀ (a : Act) (E : Env),SR σ a E → c.wp P (Post E Q) a E.w
theorem WP.vp {c : Code} {Q : Exit → AS → Prop} {σ : AS} (h : WP P c Q σ) : VP P c Q σ := fun _ _ hs => h.run hs
theorem Post.mono {E : Env} {Q Q' : Exit → AS → Prop} (hq : ∀ e σ,Q e σ → Q' e σ) {e : Exit} {a : Act} {w : World} (h : Post E Q e a w) : Post E Q' e a w := by
 obtain ⟨σ',E',h1,h2,h3,h4⟩:=h
 exact ⟨σ',E',h1,h2,h3,hq _ _ h4⟩
theorem VP.mono {c : Code} {Q Q' : Exit → AS → Prop} {σ : AS} (h : VP P c Q σ) (hq : ∀ e σ,Q e σ → Q' e σ) : VP P c Q' σ := fun a E hs => wp_mono (h a E hs) fun _ _ _ hp => Post.mono hq hp
theorem VP.weak {c : Code} {Q : Exit → AS → Prop} {σ σ' : AS} (hl : AS.le σ' σ) (h : VP P c Q σ') : VP P c Q σ := fun a E hs => h a E (hs.le hl)
theorem VP.seq {x y : Code} {Q : Exit → AS → Prop} {σ : AS} (h : VP P x (fun e σ' => match e with
   | .normal=>VP P y Q σ'
   | e=>Q e σ') σ) : VP P (.seq x y) Q σ:=fun a E hs=>by
 refine wp_seq (wp_mono (h a E hs) fun e a' w' hp=>?_)
 obtain ⟨σ',E',rfl,k1,k2,k3⟩:=hp
 cases e with
 | normal =>
   refine wp_mono (k3 a' E' k1) fun e a'' w'' hp=>?_
   obtain ⟨σ'',E'',rfl,g1,g2,g3⟩:=hp
   exact ⟨σ'',E'',rfl,g1,k2.trans g2,g3⟩
 | _=>exact ⟨σ',E',rfl,k1,k2,k3⟩
theorem VP.block {id : Nat} {x : Code} {Q : Exit → AS → Prop} {σ : AS} (h : VP P x (fun e σ' => match e with
   | .exit i=>if i = id then Q .normal σ' else Q (.exit i) σ'
   | e=>Q e σ') σ) : VP P (.block id x) Q σ:=fun a E hs=>by
 refine wp_block (wp_mono (h a E hs) fun e a' w' hp=>?_)
 obtain ⟨σ',E',rfl,h1,h2,h3⟩:=hp
 cases e with
 | exit i =>
   simp only [Exit.inBlock]
   simp only at h3
   split
   · rename_i e; rw [if_pos e] at h3; exact ⟨σ',E',rfl,h1,h2,h3⟩
   · rename_i e; rw [if_neg e] at h3; exact ⟨σ',E',rfl,h1,h2,h3⟩
 | _=>exact ⟨σ',E',rfl,h1,h2,h3⟩
theorem VP.cond {c : Operand} {x y : Code} {b : Bool} {Q : Exit → AS → Prop} {σ : AS} (hc : σ.ev c = .bool b) (ht : b = true → VP P x Q σ) (hf : b = false → VP P y Q σ) : VP P (.cond c x y) Q σ := fun a E hs => by
 have h:=hs.ev c
 rw [hc] at h
 simp only [Rep] at h
 exact wp_cond_split h (fun e=>ht e a E hs) (fun e=>hf e a E hs)
theorem VP.loop {x : Code} {Q : Exit → AS → Prop} {ι : Type} (J : ι → AS) (m : ι → Nat)
   (step : ∀ i,VP P x (fun e σ'=>match e with
     | .normal => ∃ j,m j < m i ∧ AS.le (J j) σ'
     | e=>Q e σ') (J i)) {σ : AS} (i : ι) (h0 : AS.le (J i) σ) : VP P (.loop x) Q σ:=by
 have key : ∀ (n : Nat) (i : ι),m i < n → ∀ (a : Act) (E0 E : Env),Step E0 E → SR (J i) a E → Code.rounds P x (Post E0 Q) n a E.w:=by
   intro n
   induction n with
   | zero=>intro i h; omega
   | succ n ih =>
     intro i hi a E0 E hst hs
     rw [rounds_succ]
     refine wp_mono (step i a E hs) fun e a'' w'' hp=>?_
     obtain ⟨σ2,E2,rfl,k1,k2,k3⟩:=hp
     cases e with
     | normal =>
       obtain ⟨j,hj,hle⟩:=k3
       exact ih j (by omega) a'' E0 E2 (hst.trans k2) (k1.le hle)
     | _=>exact ⟨_,E2,rfl,k1,hst.trans k2,k3⟩
 exact fun a E hs=>wp_loop_rounds (m i + 1) (key (m i + 1) i (by omega) a E E (Step.refl E) (hs.le h0))
def postV (P : Program) (Q : AS → Prop) : List Fr → Exit → AS → Prop
 | [],e, σ=>(e = .normal ∨ e = .ret) ∧ Q σ
 | .seq y :: fs,e, σ=>match e with
   | .normal=>VP P y (postV P Q fs) σ
   | e=>postV P Q fs e σ
 | .blk id :: fs,e, σ=>match e with
   | .exit i=>if i = id then postV P Q fs .normal σ else postV P Q fs (.exit i) σ
   | e=>postV P Q fs e σ
 | .loop b :: fs,e, σ=>match e with
   | .normal=>b σ
   | e=>postV P Q fs e σ
structure V (P : Program) (Q : AS → Prop) (c : Code) (fs : List Fr) (σ : AS) : Prop where
 h : VP P c (postV P Q fs) σ
structure NV (P : Program) (Q : AS → Prop) (fs : List Fr) (σ : AS) : Prop where
 h : postV P Q fs .normal σ
structure XV (P : Program) (Q : AS → Prop) (i : Nat) (fs : List Fr) (σ : AS) : Prop where
 h : postV P Q fs (.exit i) σ
variable {Q : AS → Prop}
theorem postV_ret : ∀ (fs : List Fr) (σ : AS),Q σ → postV P Q fs .ret σ
 | [],_,h=>⟨.inr rfl,h⟩
 | .seq _ :: fs, σ,h=>postV_ret fs σ h
 | .blk _ :: fs, σ,h=>postV_ret fs σ h
 | .loop _ :: fs, σ,h=>postV_ret fs σ h
theorem NV.nil {σ : AS} (h : Q σ) : NV P Q [] σ := ⟨.inl rfl,h⟩
theorem NV.seq {y : Code} {fs : List Fr} {σ : AS} (h : V P Q y fs σ) : NV P Q (.seq y :: fs) σ := ⟨h.h⟩
theorem NV.blk {id : Nat} {fs : List Fr} {σ : AS} (h : NV P Q fs σ) : NV P Q (.blk id :: fs) σ := ⟨h.h⟩
theorem NV.loop {b : AS → Prop} {fs : List Fr} {σ : AS} (h : b σ) : NV P Q (.loop b :: fs) σ := ⟨h⟩
theorem XV.seq {i : Nat} {y : Code} {fs : List Fr} {σ : AS} (h : XV P Q i fs σ) : XV P Q i (.seq y :: fs) σ := ⟨h.h⟩
theorem XV.loop {i : Nat} {b : AS → Prop} {fs : List Fr} {σ : AS} (h : XV P Q i fs σ) : XV P Q i (.loop b :: fs) σ := ⟨h.h⟩
theorem XV.hit {i : Nat} {fs : List Fr} {σ : AS} (h : NV P Q fs σ) : XV P Q i (.blk i :: fs) σ := by
 refine ⟨?_⟩
 simp only [postV,if_true]
 exact h.h
theorem XV.pass {i j : Nat} {fs : List Fr} {σ : AS} (hne : i ≠ j) (h : XV P Q i fs σ) : XV P Q i (.blk j :: fs) σ := by
 refine ⟨?_⟩
 simp only [postV,if_neg hne]
 exact h.h
theorem V.seq {c : Code} {fs : List Fr} {σ : AS} (hc : c = .seq (cL c) (cR c)) (h : V P Q (cL c) (.seq (cR c) :: fs) σ) : V P Q c fs σ := by
 refine ⟨?_⟩
 rw [hc]
 exact VP.seq (h.h.mono fun e σ h=>by cases e <;> exact h)
theorem V.block {c : Code} {fs : List Fr} {σ : AS} {id : Nat} (hc : c = .block id (cL c)) (h : V P Q (cL c) (.blk id :: fs) σ) : V P Q c fs σ := by
 refine ⟨?_⟩
 rw [hc]
 exact VP.block (h.h.mono fun e σ h=>by cases e <;> exact h)
theorem V.skip {c : Code} {fs : List Fr} {σ : AS} (hc : c = .skip) (h : NV P Q fs σ) : V P Q c fs σ := by
 refine ⟨?_⟩
 rw [hc]
 exact (WP.skip h.h).vp
theorem V.exit {c : Code} {fs : List Fr} {σ : AS} {i : Nat} (hc : c = .exit i) (h : XV P Q i fs σ) : V P Q c fs σ := by
 refine ⟨?_⟩
 rw [hc]
 exact (WP.exit h.h).vp
theorem V.ret {c : Code} {fs : List Fr} {σ : AS} (hc : c = .ret) (h : Q σ) : V P Q c fs σ := by
 refine ⟨?_⟩
 rw [hc]
 exact (WP.ret (postV_ret fs σ h)).vp
theorem V.cond {c : Code} {fs : List Fr} {σ : AS} {t : Nat} {b : Bool} (hc : c = .cond (.tmp t) (cL c) (cR c)) (hv : lk σ.tmps t = some (.bool b)) (ht : b = true → V P Q (cL c) fs σ) (hf : b = false → V P Q (cR c) fs σ) : V P Q c fs σ := by
 refine ⟨?_⟩
 rw [hc]
 exact VP.cond (by simp [AS.ev,hv]) (fun e=>(ht e).h) (fun e=>(hf e).h)
theorem V.condT {c : Code} {fs : List Fr} {σ : AS} {t : Nat} (hc : c = .cond (.tmp t) (cL c) (cR c)) (hv : lk σ.tmps t = some (.bool true)) (ht : V P Q (cL c) fs σ) : V P Q c fs σ :=
 V.cond hc hv (fun _=>ht) (fun h=>by cases h)
theorem V.condF {c : Code} {fs : List Fr} {σ : AS} {t : Nat} (hc : c = .cond (.tmp t) (cL c) (cR c)) (hv : lk σ.tmps t = some (.bool false)) (hf : V P Q (cR c) fs σ) : V P Q c fs σ :=
 V.cond hc hv (fun h=>by cases h) (fun _=>hf)
theorem V.region {specs : NL Spec} (hm : P.follows .mixedOrders = true) (hsp : ∀ p ∈ specs,FnC P p.1 p.2.fn) {c : Code} {fs : List Fr} {id : Nat} {ops : Array Oper} (hc : c = .region id ops false) {σ σ' : AS} {A : Prop}
   (hr : runL P (specOf specs) 0 ops ops.toList σ = some (σ',A)) (h : A → NV P Q fs σ') : V P Q c fs σ:=by
 refine ⟨?_⟩
 rw [hc]
 exact (WP.region (draw:=false) hm (specOf_ok hsp) hr fun hA=>(h hA).h).vp
theorem V.regionD {specs : NL Spec} (hm : P.follows .mixedOrders = true) (hsp : ∀ p ∈ specs,FnC P p.1 p.2.fn) {c : Code} {fs : List Fr} {id : Nat} {ops : Array Oper} (hc : c = .region id ops true) {σ σ' : AS} {fps : List FP} {rw' : List (List Nat × List Nat)}
   (hr : runF P (specOf specs) 0 ops ops.toList σ = some (σ',fps)) (hrw : (fps.map fun f=>(f.rd,f.wr)) = rw') (ho : drawOK ops rw' = true) (h : asAll fps → NV P Q fs σ') : V P Q c fs σ:=by
 refine ⟨?_⟩
 rw [hc]
 refine (WP.region (kk:=0) hm (specOf_ok hsp) (A:=asAll fps) ?_ fun hA=>(h hA).h).vp
 subst hrw
 unfold drawOK at ho
 simp only [runR,runD]
 split at ho
 · rename_i l hl
   simp only [hl,hr]
   rw [if_pos]
   rw [← ho]
   congr 1
   funext p
   rw [fp_getD,fp_getD]
   rfl
 · cases ho
theorem V.loop {c : Code} {fs : List Fr} {σ : AS} (hc : c = .loop (cL c)) {ι : Type} (J : ι → AS) (m : ι → Nat) (i : ι) (h0 : AS.le (J i) σ)
   (step : ∀ i,V P Q (cL c) (.loop (fun σ' => ∃ j,m j < m i ∧ AS.le (J j) σ') :: fs) (J i)) : V P Q c fs σ:=by
 refine ⟨?_⟩
 rw [hc]
 exact VP.loop J m (fun i=>(step i).h.mono fun e σ h=>by cases e <;> exact h) i h0
theorem V.weak {c : Code} {fs : List Fr} {σ σ' : AS} (hl : AS.le σ' σ) (h : V P Q c fs σ') : V P Q c fs σ := ⟨VP.weak hl h.h⟩
theorem V.caps {c : Code} {fs : List Fr} {n t id g off len : Nat} {ts : NL AV} {H : NL ABlk} {blk : ABlk} (ht : lk ts t = some (.sl id g off len)) (hb : lk H id = some blk) (hg : blk.gen = g)
   (h : ∀ cap,len ≤ cap → cap ≤ maxLen → V P Q c fs ⟨n,(t, .slc id g off len cap) :: ts,H⟩) : V P Q c fs ⟨n,ts,H⟩:=by
 refine ⟨fun a E hs=>?_⟩
 obtain ⟨v,hv,hx⟩:=hs.tmps t _ ht
 simp only [Rep] at hx
 obtain ⟨b,ad,len',cap,h1,h2,h3,h4⟩:=hx
 have hbb : b = blk:=by
   have : E.H id = some blk:=by rw [hs.heap]; exact hb
   rw [this] at h1; cases h1; rfl
 subst hbb
 obtain ⟨k1,k2,k3,k4,k5⟩:=h4 hg
 refine (h cap k3 k4).h a E ⟨hs.heap,hs.hr,hs.defers,hs.size,fun t' x hx=>?_⟩
 simp only [lk] at hx
 split at hx
 · rename_i e
   subst e
   simp only [Option.some.injEq] at hx
   subst hx
   refine ⟨v,hv, ?_⟩
   simp only [Rep]
   exact ⟨b,ad,len',cap,h1,h2,h3,fun _=>⟨k1,k2,rfl,k3,k4,k5⟩,k2,rfl,k3,k4⟩
 · exact hs.tmps t' x hx
end
end Go.Abs
namespace Go.Abs
open Go
set_option linter.unusedSimpArgs false
set_option linter.unusedVariables false
section
variable {P : Program}
theorem FnC.walkM {α : Type} {enc : α → List AV × List ABlk} {res : α → AV × List ABlk} (f : FuncId) {fn : Func} (hf : P.funcs[f]? = some fn) (hb : fn.body = some (codeOf fn)) (hname : (fn.name == "runtime.NumGoroutine") = false)
   (hg : ∀ x, ∀ b ∈ (enc x).2,b.gen = 0) (h : ∀ x,W P (RetM P fn (enc x).2.length (res x).1 (res x).2) (codeOf fn) [] (init2 fn (enc x).1 (enc x).2)) : FnC P f (mkS2 enc res):=by
 refine ⟨⟨fn,hf,hname,by simp [hb]⟩,fun args B r B' hS E vs hH hr hx=>?_⟩
 unfold mkS2 at hS
 split at hS
 · rename_i hex
   simp only [Option.some.injEq] at hS
   have hw:=h hex.choose
   have hg':=hg hex.choose
   rw [hex.choose_spec,hS] at hw
   rw [hex.choose_spec] at hg'
   simp only at hw hg'
   have hsz : vs.size = args.length:=by have:=hx.length; simpa using this
   have hsr : SR (init2 fn args B) { tmps:=vs ++ Array.replicate (fn.ntmps - vs.size) undef,defers:=[] } E:=by
     refine ⟨by rw [hH]; funext i; simp [init2,lk_num],hr,rfl,by simp [init2,hsz],fun t x ht=>?_⟩
     simp only [init2,lk_num,Nat.zero_le,if_true,Nat.sub_zero] at ht
     obtain ⟨v,hv,hxv⟩:=hx.get ht
     refine ⟨v, ?_,hxv⟩
     have hlt : t < vs.size:=by rw [hsz]; exact (List.getElem?_eq_some_iff.1 ht).1
     rw [Array.getElem?_append_left hlt]
     simpa using hv
   refine calls_of_wp hf hb (wp_mono (hw.h.run hsr) fun e a' w' hp=>?_)
   obtain ⟨σ',E1,rfl,h1,h2,he,xs,hxs,fz,out,ho,exp,gs,q1,q1b,q2,q2b,q3,rfl⟩:=hp
   obtain ⟨v,g1,g2⟩:=resVs_run h1 hxs
   obtain ⟨E2,k1,k2,k3,k4,k5⟩:=frqT_run h1.heap h1.hr g2 ho
   obtain ⟨E3,m1,m2,m3,m4,m5⟩:=export_envM hH hg' k2 k3 (h2.trans k4) q1 q1b q2 q2b q3
   have hfinal : bodyPost P fn (fun e w' => ∃ v E',e = .returned v ∧ E'.w = w' ∧ E'.H = (fun i=>B'[i]?) ∧ HR E' ∧ Step E E' ∧ Rep E' (out.val.ren (expG exp gs out.H)) v) .ret a' E1.w :=
     ⟨h1.defers,v,g1,v,E3,rfl,m1.trans k1,m2,m3,m4,ren_rep m5 _ _ k5⟩
   rcases he with rfl | rfl
   · exact hfinal
   · exact hfinal
 · cases hS
theorem VP.env {c : Code} {Q : Exit → AS → Prop} {σ σ1 : AS} (h : ∀ a E,SR σ a E → ∃ E1,E1.w = E.w ∧ Step E E1 ∧ SR σ1 a E1) (h1 : VP P c Q σ1) : VP P c Q σ := fun a E hs => by
 obtain ⟨E1,e1,e2,e3⟩:=h a E hs
 rw [← e1]
 exact wp_mono (h1 a E1 e3) fun e a' w' ⟨σ',E',k1,k2,k3,k4⟩=>⟨σ',E',k1,k2,e2.trans k3,k4⟩
theorem V.env {c : Code} {Q : AS → Prop} {fs : List Fr} {σ σ1 : AS} (h : ∀ a E,SR σ a E → ∃ E1,E1.w = E.w ∧ Step E E1 ∧ SR σ1 a E1) (h1 : V P Q c fs σ1) : V P Q c fs σ := ⟨VP.env h h1.h⟩
theorem phantom_env {n t : Nat} {ts : NL AV} {H : NL ABlk} (id elem size : Nat) (inl : Bool) (ht : lk ts t = some .nils) (hid : lk H id = none) (h0 : 0 < size) :
   ∀ a E,SR ⟨n,ts,H⟩ a E → ∃ E1,E1.w = E.w ∧ Step E E1 ∧ SR ⟨n,(t, .sl id 0 0 0) :: ts,(id, { gen:=0,kind:=2,elem,size,inl,rows:=[] }) :: H⟩ a E1:=fun a E hs=>by
 have hn : E.H id = none:=by rw [hs.heap]; exact hid
 obtain ⟨h1,h2⟩:=hs.hr.phantom (id:=id) (blk:={ gen:=0,kind:=2,elem,size,inl,rows:=[] }) rfl (fun old ho=>by rw [hn] at ho; cases ho) h0 rfl
 refine ⟨⟨E.w,upd E.H id (some { gen:=0,kind:=2,elem,size,inl,rows:=[] }),E.φ,upd E.cs id 0,E.F⟩,rfl,h2, ?_,h1,hs.defers,hs.size,fun t' x hx=>?_⟩
 · funext i
   by_cases e : id = i
   · subst e; simp [lk,upd_same]
   · simp only [lk,upd_other _ _ _ e,hs.heap,if_neg e]
 · simp only [lk] at hx
   split at hx
   · rename_i e
     subst e
     simp only [Option.some.injEq] at hx
     subst hx
     obtain ⟨v,hv,hx⟩:=hs.tmps t _ ht
     simp only [Rep] at hx
     subst hx
     refine ⟨_,hv, ?_⟩
     simp only [Rep,upd_same]
     exact ⟨_,none,0,0,rfl,Nat.le_refl _,rfl,fun _=>⟨.inr rfl,rfl,Nat.le_refl _,Nat.zero_le _,fun h=>absurd h (by omega)⟩⟩
   · obtain ⟨v,hv,hx⟩:=hs.tmps t' x hx
     exact ⟨v,hv,Rep.mono h2 _ _ hx⟩
theorem V.phantom {c : Code} {Q : AS → Prop} {fs : List Fr} {n t : Nat} {ts : NL AV} {H : NL ABlk} (id elem size : Nat) (ht : lk ts t = some .nils) (hid : lk H id = none) (h0 : 0 < size)
   (h : V P Q c fs ⟨n,(t, .sl id 0 0 0) :: ts,(id, { gen:=0,kind:=2,elem,size,inl:=true,rows:=[] }) :: H⟩) : V P Q c fs ⟨n,ts,H⟩:=V.env (phantom_env id elem size true ht hid h0) h
theorem WP.env {c : Code} {Q : Exit → AS → Prop} {σ σ1 : AS} (h : ∀ a E,SR σ a E → ∃ E1,E1.w = E.w ∧ Step E E1 ∧ SR σ1 a E1) (h1 : WP P c Q σ1) : WP P c Q σ := fun ⟨a,E,hs⟩ => by
 obtain ⟨E1,e1,e2,e3⟩:=h a E hs
 obtain ⟨e, τ,hq,hx⟩:=h1 ⟨a,E1,e3⟩
 refine ⟨e, τ,hq,fun a E hs=>?_⟩
 obtain ⟨E1,e1,e2,e3⟩:=h a E hs
 rw [← e1]
 exact wp_mono (hx a E1 e3) fun e a' w' ⟨σ',E',k1,k2,k3,k4⟩=>⟨σ',E',k1,k2,e2.trans k3,k4⟩
theorem W.env {c : Code} {Q : AS → Prop} {fs : List Fr} {σ σ1 : AS} (h : ∀ a E,SR σ a E → ∃ E1,E1.w = E.w ∧ Step E E1 ∧ SR σ1 a E1) (h1 : W P Q c fs σ1) : W P Q c fs σ := ⟨WP.env h h1.h⟩
theorem frz_env {n t : Nat} {ts : NL AV} {H H' : NL ABlk} {x x' : AV} {rd wr : List Nat} {A : Prop} (ht : lk ts t = some x) (hf : (frqT true x).run H = some ⟨x',H',rd,wr,A⟩) :
   ∀ a E,SR ⟨n,ts,H⟩ a E → ∃ E1,E1.w = E.w ∧ Step E E1 ∧ SR ⟨n,(t,x') :: ts,H'⟩ a E1:=fun a E hs=>by
 obtain ⟨v,hv,hx⟩:=hs.tmps t _ ht
 obtain ⟨E1,h1,h2,h3,h4,h5⟩:=frqT_run hs.heap hs.hr hx hf
 refine ⟨E1,h1,h4,h2,h3,hs.defers,hs.size,fun t' y hy=>?_⟩
 simp only [lk] at hy
 split at hy
 · rename_i e
   subst e
   simp only [Option.some.injEq] at hy
   subst hy
   exact ⟨v,hv,h5⟩
 · obtain ⟨v,hv,hx⟩:=hs.tmps t' y hy
   exact ⟨v,hv,Rep.mono h4 _ _ hx⟩
theorem W.frz {c : Code} {Q : AS → Prop} {fs : List Fr} {n : Nat} (t : Nat) {ts : NL AV} {H H' : NL ABlk} {x x' : AV} {rd wr : List Nat} {A : Prop} (ht : lk ts t = some x) (hf : (frqT true x).run H = some ⟨x',H',rd,wr,A⟩)
   (h : W P Q c fs ⟨n,(t,x') :: ts,H'⟩) : W P Q c fs ⟨n,ts,H⟩:=W.env (frz_env ht hf) h
theorem V.frz {c : Code} {Q : AS → Prop} {fs : List Fr} {n : Nat} (t : Nat) {ts : NL AV} {H H' : NL ABlk} {x x' : AV} {rd wr : List Nat} {A : Prop} (ht : lk ts t = some x) (hf : (frqT true x).run H = some ⟨x',H',rd,wr,A⟩)
   (h : V P Q c fs ⟨n,(t,x') :: ts,H'⟩) : V P Q c fs ⟨n,ts,H⟩:=V.env (frz_env ht hf) h
theorem W.phantom {c : Code} {Q : AS → Prop} {fs : List Fr} {n t : Nat} {ts : NL AV} {H : NL ABlk} (id elem size : Nat) (inl : Bool) (ht : lk ts t = some .nils) (hid : lk H id = none) (h0 : 0 < size)
   (h : W P Q c fs ⟨n,(t, .sl id 0 0 0) :: ts,(id, { gen:=0,kind:=2,elem,size,inl,rows:=[] }) :: H⟩) : W P Q c fs ⟨n,ts,H⟩:=W.env (phantom_env id elem size inl ht hid h0) h
theorem V.uncap {c : Code} {Q : AS → Prop} {fs : List Fr} {n t id g off len cap : Nat} {ts : NL AV} {H : NL ABlk} (ht : lk ts t = some (.slc id g off len cap)) (h : V P Q c fs ⟨n,(t, .sl id g off len) :: ts,H⟩) : V P Q c fs ⟨n,ts,H⟩ := by
 refine V.env (fun a E hs=>⟨E,rfl,Step.refl E, ?_⟩) h
 refine ⟨hs.heap,hs.hr,hs.defers,hs.size,fun t' x hx=>?_⟩
 simp only [lk] at hx
 split at hx
 · rename_i e
   subst e
   simp only [Option.some.injEq] at hx
   subst hx
   obtain ⟨v,hv,hx⟩:=hs.tmps t _ ht
   refine ⟨v,hv, ?_⟩
   simp only [Rep] at hx ⊢
   obtain ⟨blk,a,len',cap',h1,h2,rfl,h3, -⟩:=hx
   refine ⟨blk,a,len',cap',h1,h2,rfl,fun hg=>?_⟩
   obtain ⟨k1,k2,rfl,k4⟩:=h3 hg
   exact ⟨k1,k2,k4⟩
 · exact hs.tmps t' x hx
theorem V.nilCase {c : Code} {Q : AS → Prop} {fs : List Fr} {n t s : Nat} {ts : NL AV} {H : NL ABlk} (id : Nat) (ht : lk ts t = some (.list s [])) (hid : lk H id = none)
   (h1 : V P Q c fs ⟨n,(t, .nils) :: ts,H⟩) (h2 : V P Q c fs ⟨n,(t, .psl id 0 0 0 0) :: ts,(id, { gen:=1 }) :: H⟩) : V P Q c fs ⟨n,ts,H⟩:=by
 refine ⟨fun a E hs=>?_⟩
 obtain ⟨v,hv,hx⟩:=hs.tmps t _ ht
 simp only [Rep,RepI] at hx
 rcases hx with ⟨rfl,_⟩ | ⟨ad,cap,rfl,_⟩
 · refine h1.h a E ⟨hs.heap,hs.hr,hs.defers,hs.size,fun t' x hx=>?_⟩
   simp only [lk] at hx
   split at hx
   · rename_i e
     subst e
     simp only [Option.some.injEq] at hx
     subst hx
     exact ⟨_,hv,rfl⟩
   · exact hs.tmps t' x hx
 · have hn : E.H id = none:=by rw [hs.heap]; exact hid
   have hst : Step E ⟨E.w,upd E.H id (some { gen:=1 }),E.φ,E.cs,E.F⟩:=by
     refine ⟨Nat.le_refl _,fun b _ _=>rfl,rfl,fun k b hb=>?_,fun k b' hb hk' hc'=>?_,Kept.refl _⟩
     · have e : id ≠ k:=fun e=>by subst e; rw [hn] at hb; cases hb
       exact ⟨b,by simp [upd_other _ _ _ e,hb],Nat.le_refl _,fun _ _=>⟨.inl rfl,rfl,rfl,rfl,rfl⟩⟩
     · by_cases e : id = k
       · subst e; simp only [upd_same,Option.some.injEq] at hb; subst hb; simp at hk'
       · exact .inl ⟨k,b',by simpa [upd_other _ _ _ e] using hb,hk',hc',rfl, .inl rfl⟩
   have hex : ∀ k b,upd E.H id (some { gen:=1 }) k = some b → b.kind ≠ 0 → E.H k = some b:=by
     intro k b h hk
     by_cases e : id = k
     · subst e; simp only [upd_same,Option.some.injEq] at h; subst h; exact absurd rfl hk
     · simpa [upd_other _ _ _ e] using h
   have hr' : HR ⟨E.w,upd E.H id (some { gen:=1 }),E.φ,E.cs,E.F⟩:=by
     refine ⟨fun k b hb=>?_,fun i j bi bj hi hj ki kj ci cj hne=>?_,fun k b hb hk hc=>?_,hs.hr.fb⟩
     · by_cases e : id = k
       · subst e
         simp only [upd_same,Option.some.injEq] at hb
         subst hb
         simp [BlkOK]
       · simp only [upd_other _ _ _ e] at hb
         exact BlkOK.mono hst rfl rfl (fun _ _=>rfl) (hs.hr.blk k b hb)
     · exact hs.hr.inj i j bi bj (hex i bi hi ki) (hex j bj hj kj) ki kj ci cj hne
     · exact hs.hr.nf k b (hex k b hb hk) hk hc
   have:=h2.h a ⟨E.w,upd E.H id (some { gen:=1 }),E.φ,E.cs,E.F⟩ ⟨?_,hr',hs.defers,hs.size,fun t' x hx=>?_⟩
   · exact wp_mono this fun e a' w' ⟨σ',E',k1,k2,k3,k4⟩=>⟨σ',E',k1,k2,hst.trans k3,k4⟩
   · funext i
     by_cases e : id = i
     · subst e; simp [lk,upd_same]
     · simp only [lk,upd_other _ _ _ e,hs.heap,if_neg e]
   · simp only [lk] at hx
     split at hx
     · rename_i e
       subst e
       simp only [Option.some.injEq] at hx
       subst hx
       refine ⟨_,hv, ?_⟩
       simp only [Rep,upd_same]
       exact ⟨_,_,_,rfl,Nat.zero_le _,rfl,fun h=>by simp at h⟩
     · obtain ⟨v,hv,hx⟩:=hs.tmps t' x hx
       exact ⟨v,hv,Rep.mono hst _ _ hx⟩
end
end Go.Abs
