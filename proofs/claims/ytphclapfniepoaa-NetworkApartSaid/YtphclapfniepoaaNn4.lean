/- Searching numbers with a function value. Conditions: none. -/
import Derived.Test.YtphclapfniepoaaNn3
import Derived.Test.YtphclapfniepoaaAb9
import Derived.Test.YtphclapfniepoaaNn1
import Derived.Test.YtphclapfniepoaaAb6
namespace Go.Abs.Nn
open Go Go.Proofs Go.Abs
set_option maxRecDepth 100000
set_option maxHeartbeats 4000000
set_option linter.unusedSimpArgs false
set_option linter.unusedVariables false
section
attribute [local simp] instA
end
section
attribute [local simp] instA
end
end Go.Abs.Nn
namespace Go.Abs.Dir
set_option linter.unusedSimpArgs false
set_option linter.unusedVariables false
section
variable {O : Type}
structure Hd where
 mode : Int → Int
 demand : Int → Bool
 asked : Int → Int
def N4 (n : Int) : Prop := 0 ≤ n ∧ n ≤ 3
def Asc (l : List Int) : Prop := l.Pairwise (· < ·)
structure Pre (Pz : O → Prop) (z : O) (q : List (Int × Int)) (ow : Int) (rd : List Int) (ob : O) (h : Hd) : Prop where
 m2 : ∀ n,N4 n → (h.mode n = 2 ↔ ow = n)
 m1 : ∀ n,N4 n → (h.mode n = 1 ↔ n ∈ rd)
 m0 : ∀ n,N4 n → 0 ≤ h.mode n ∧ h.mode n ≤ 2
 owr : ow = -1 ∨ N4 ow
 rdr : ∀ n ∈ rd,N4 n
 asc : Asc rd
 one : ow ≠ -1 → rd = []
 obz : ow ≠ -1 → ob = z
 obp : Pz ob
 q1 : ∀ p ∈ q,N4 p.1 ∧ h.asked p.1 = p.2 ∧ (p.2 = 1 ∨ p.2 = 2) ∧ h.mode p.1 < p.2
 q2 : q.Pairwise (fun a b=>a.1 ≠ b.1)
 q3 : ∀ n,N4 n → h.asked n ≠ 0 → ∃ p ∈ q,p.1 = n
structure Inv (Pz : O → Prop) (z : O) (e : Ent O) (h : Hd) : Prop where
 pre : Pre Pz z e.queue e.owner e.readers e.obj h
 dem : ∀ n,N4 n → (h.demand n = true ↔ n ∈ e.waiting)
 wt : (e.waiting = [] ∧ e.queue = []) ∨ (e.waiting ≠ [] ∧ ∃ p q,e.queue = p :: q ∧ ((e.owner ≠ -1 ∧ e.waiting = [e.owner]) ∨ (e.owner = -1 ∧ p.2 = 2 ∧ e.waiting = oth e.readers p.1)))
theorem N4_cases {n : Int} (h : N4 n) : n = 0 ∨ n = 1 ∨ n = 2 ∨ n = 3 := by unfold N4 at h; omega
theorem nodup_len : ∀ {l S : List Int},l.Nodup → (∀ x ∈ l,x ∈ S) → l.length ≤ S.length
 | [],_,_,_=>Nat.zero_le _
 | x :: r,S,h,hs=>by
   obtain ⟨h1,h2⟩:=List.pairwise_cons.1 h
   have hx:=hs x (by simp)
   have h3:=nodup_len (l:=r) (S:=S.erase x) h2 (fun y hy=>(List.mem_erase_of_ne (h1 y hy).symm).2 (hs y (by simp [hy])))
   rw [List.length_erase_of_mem hx] at h3
   have:=List.length_pos_of_mem hx
   simp only [List.length_cons]
   omega
theorem Inv.q4 {Pz : O → Prop} {z : O} {e : Ent O} {h : Hd} (hi : Inv Pz z e h) : e.queue.length ≤ 4 := by
 have h1 : (e.queue.map (·.1)).Nodup:=by
   rw [List.Nodup,List.pairwise_map]
   exact hi.pre.q2
 have h2 : ∀ x ∈ e.queue.map (·.1),x ∈ [(0 : Int),1,2,3]:=fun x hx=>by
   obtain ⟨p,hp,rfl⟩:=List.mem_map.1 hx
   have:=N4_cases (hi.pre.q1 p hp).1
   simpa using this
 have:=nodup_len h1 h2
 simpa using this
end
end Go.Abs.Dir
namespace Go.Abs.Nn
open Go Go.Proofs Go.Abs
set_option maxRecDepth 100000
set_option maxHeartbeats 4000000
set_option linter.unusedSimpArgs false
set_option linter.unusedVariables false
section
abbrev En := Dir.Ent Ob
def askC (p : Int × Int) : List AV := [.int .i64 p.1, .int .i64 p.2]
@[simp] def enC (e : En) : List AV := .int .u64 e.id :: .int .i64 e.owner :: .list 1 (e.readers.map iC) :: (e.obj.cells ++ [.list 1 (e.waiting.map iC), .list 2 (e.queue.map askC)])
theorem iC_inj {l m : List Int} (h : l.map iC = m.map iC) : l = m := map_inj' (fun a b h => by simpa [iC] using h) h
theorem askC_inj {l m : List (Int × Int)} (h : l.map askC = m.map askC) : l = m := map_inj' (fun a b h => by
 obtain ⟨a,b⟩:=a
 simpa [askC,Prod.ext_iff] using h) h
theorem enC_inj {s t : En} (h : enC s = enC t) : s = t := by
 obtain ⟨a,b,r,o,w,q⟩:=s
 obtain ⟨a',b',r',o',w',q'⟩:=t
 simp only [enC,List.cons.injEq,AV.int.injEq,AV.list.injEq,true_and] at h
 obtain ⟨rfl,rfl,h0,h⟩:=h
 obtain ⟨h1,h2⟩:=List.append_inj h (by simp)
 simp only [List.cons.injEq,AV.list.injEq,true_and,and_true] at h2
 cases iC_inj h0
 cases iC_inj h2.1
 cases askC_inj h2.2
 rw [Td.ext h1]
theorem enCs_inj {l m : List En} (h : l.map enC = m.map enC) : l = m := map_inj' (fun a b h => enC_inj h) h
def okE (e : En) : Prop := e.readers.length ≤ 9000 ∧ e.waiting.length ≤ 9000 ∧ e.queue.length ≤ 8000
structure Drs where
 node : Int
 ents : List En
 bd : ents.length ≤ 9000
 bde : ∀ e ∈ ents,okE e
def Drs.v (d : Drs) : AV := .agg [.int .i64 d.node, .list 41 (d.ents.map enC)]
theorem Drs.v_inj {s t : Drs} (h : s.v = t.v) : s = t := by
 obtain ⟨a,l,b,c⟩:=s
 obtain ⟨a',l',b',c'⟩:=t
 simp only [Drs.v,AV.agg.injEq,List.cons.injEq,AV.int.injEq,AV.list.injEq,true_and,and_true] at h
 obtain ⟨rfl,h⟩:=h
 cases enCs_inj h
 rfl
attribute [local simp] instA
attribute [-simp] mkv
attribute [local simp] mkv_hd hdA_cons hdA_ob hdA_ob'
def goodN (l : List Int) (j : Nat) : Bool := match l[j]? with
 | none=>true
 | some t=>okN t && match j with
   | 0=>true
   | i + 1=>match l[i]? with
     | some s=>decide (s < t)
     | none=>true
def ascN (l : List Int) : Bool := (List.range l.length).all (goodN l)
end
section
attribute [local simp] instA
end
section
attribute [local simp] instA
attribute [-simp] mkv
attribute [local simp] mkv_hd hdA_cons hdA_ob hdA_ob'
end
section
attribute [local simp] instA slice3A slice3C
attribute [-simp] mkv
attribute [local simp] mkv_hd hdA_cons hdA_ob hdA_ob'
end
section
attribute [local simp] instA
attribute [-simp] mkv
attribute [local simp] mkv_hd hdA_cons hdA_ob hdA_ob'
end
section
attribute [local simp] instA
attribute [-simp] mkv
attribute [local simp] mkv_hd hdA_cons hdA_ob hdA_ob'
@[simp] def sesC (e : En) (nd : Int) (M : AV) : List AV := .int .u64 e.id :: .int .i64 e.owner :: .list 1 (e.readers.map iC) :: (e.obj.cells ++ [.list 1 (e.waiting.map iC), .list 2 (e.queue.map askC), .int .i64 nd,M])
def graM (nd id n m : Int) (o : Ob) : Msg := ⟨nd,n,2,id,m,o,0,0,0,0⟩
noncomputable def revM (nd id n : Int) : Msg := ⟨nd,n,3,id,0,zOb,0,0,0,0⟩
structure Gr where
 e : En
 nd : Int
 ms : List Msg
 n : Int
 m : Int
 q : List (Int × Int)
 hq : e.queue = (n,m) :: q
 hl : e.queue.length ≤ 9000
 hm : ms.length ≤ 90000
noncomputable def gra_specs : NL Spec := [(25,⟨1,cobS⟩)]
attribute [local simp] gra_specs
structure De where
 e : En
 nd : Int
 ms : List Msg
 ns : List Int
 h0 : 0 < ns.length
 hl : ns.length ≤ 9100
 hm : ms.length ≤ 90000
end
section
attribute [local simp] instA
attribute [-simp] mkv
attribute [local simp] mkv_hd hdA_cons hdA_ob hdA_ob'
def srt (l : List Int) : List Int := l.mergeSort fun x y => decide (x ≤ y)
noncomputable def mgM (nd id : Int) : Dir.Mg Ob → Msg
 | .rev to=>revM nd id to
 | .grant to m o=>graM nd id to m o
structure Go where
 e : En
 nd : Int
 h1 : e.readers.length + e.queue.length ≤ 9000
 h2 : e.waiting.length ≤ 9000
 h3 : Dir.Asc e.readers
theorem cI : Try.prog.cellsOf 3 = 1 := by kernel_rfl
end
section
attribute [local simp] instA slice3A slice3C
attribute [-simp] mkv
attribute [local simp] mkv_hd hdA_cons hdA_ob hdA_ob'
end
section
attribute [local simp] instA slice3A slice3C
attribute [-simp] mkv
attribute [local simp] mkv_hd hdA_cons hdA_ob hdA_ob'
def bsD (l : List En) (id : Int) : Nat := bsF (fun k => match l[k]? with | some t => decide (t.id < id) | none => false) 0 l.length
theorem bsF_bd (c : Nat → Bool) : ∀ (d lo hi : Nat),hi - lo = d → lo ≤ hi → lo ≤ bsF c lo hi ∧ bsF c lo hi ≤ hi := by
 intro d
 induction d using Nat.strongRecOn with
 | ind d ih =>
   intro lo hi hd hl
   by_cases h : lo < hi
   · rw [bsF_lt h]
     split
     · have:=ih (hi - ((lo + hi) / 2 + 1)) (by omega) ((lo + hi) / 2 + 1) hi rfl (by omega)
       omega
     · have:=ih ((lo + hi) / 2 - lo) (by omega) lo ((lo + hi) / 2) rfl (by omega)
       omega
   · rw [bsF_ge h]
     omega
theorem bsD_le (l : List En) (id : Int) : bsD l id ≤ l.length := (bsF_bd _ _ 0 l.length rfl (by omega)).2
theorem insD_eq (elem size bytes n i : Nat) (rows : List (List AV)) (z : List AV) (hn : n = rows.length) (h1 : n ≤ 1000000) (hb : (n + 1) * bytes ≤ 140737488355328) (hi : i ≤ n) : insertC elem size bytes [.sl 0 0 0 n, .int .i64 (i : Nat), .sl 1 0 0 1] [{ gen := 0,kind := 2,elem := elem,size := size,inl := true,rows }, { gen := 0,kind := 2,elem := elem,size := size,inl := true,rows := [z] }] = some (.sl 0 1 0 (n + 1),[{ gen := 1,kind := 2,elem := elem,size := size,inl := true,rows := rows.take i ++ [z] ++ rows.drop i }, { gen := 0,kind := 2,elem := elem,size := size,inl := true,rows := [z] }]) := by
 unfold insertC
 simp only [okB,beq_self_eq_true,Bool.and_self,true_and,Int.toNat_natCast,rowB]
 rw [if_pos ⟨hn,rfl,hb,h1,by omega,by omega⟩]
end
section
attribute [local simp] instA slice3A slice3C
attribute [-simp] mkv
attribute [local simp] mkv_hd hdA_cons hdA_ob hdA_ob'
theorem uM : Try.prog.underlying 72 = some (.slice 50) := by kernel_rfl
theorem cM : Try.prog.cellsOf 50 = 45 := by kernel_rfl
theorem listR_app : ∀ {a : List AV} (_ : a.all AV.isInl = true) (l : List AV) (H : NL ABlk),listR frz0R (a ++ l) H = mapO (fun r => a ++ r) (listR frz0R l H)
 | [],_,l,H=>by
   show listR frz0R l H = _
   cases listR frz0R l H with
   | none=>rfl
   | some o=>rfl
 | x :: a,h,l,H=>by
   simp only [List.all_cons,Bool.and_eq_true] at h
   rw [List.cons_append,listR,frz0R_inl h.1,nxt_some,listR_app h.2,nxt_map, ← nxt_ret]
   rfl
@[local simp] theorem listR_ob (o : Ob) (l : List AV) (H : NL ABlk) : listR frz0R (o.cells ++ l) H = mapO (fun r => o.cells ++ r) (listR frz0R l H) := listR_app o.isInl l H
structure Fin where
 d : Drs
 e : En
 h1 : e.readers.length + e.queue.length ≤ 9000
 h2 : e.waiting.length ≤ 9000
 h3 : Dir.Asc e.readers
end
section
attribute [local simp] instA
attribute [-simp] mkv
attribute [local simp] mkv_hd hdA_cons hdA_ob hdA_ob'
end
section
attribute [local simp] instA
attribute [-simp] mkv
attribute [local simp] mkv_hd hdA_cons hdA_ob hdA_ob'
end
section

end
section
attribute [local simp] instA
attribute [-simp] mkv
attribute [local simp] mkv_hd hdA_cons hdA_ob hdA_ob'
@[simp] def hdC (h : Dir.Hd) : List AV := [.int .i64 (h.mode 0), .int .i64 (h.mode 1), .int .i64 (h.mode 2), .int .i64 (h.mode 3), .bool (h.demand 0), .bool (h.demand 1), .bool (h.demand 2), .bool (h.demand 3), .int .i64 (h.asked 0), .int .i64 (h.asked 1), .int .i64 (h.asked 2), .int .i64 (h.asked 3)]
noncomputable def mgs (nd id : Int) (l : List (Dir.Mg Ob)) : List AV := [.list 45 ((l.map (mgM nd id)).map Msg.v)]
end
section
def Pz (id : Int) (o : Ob) : Prop := (oid o == id || zO? o) = true
end
section
attribute [local simp] instA slice3A slice3C
noncomputable def rzero_specs : NL Spec := [(90,⟨1,brS⟩)]
attribute [local simp] rzero_specs
end
section
attribute [local simp] instA slice3A slice3C
attribute [-simp] mkv
attribute [local simp] mkv_hd hdA_cons hdA_ob hdA_ob'
end
section
structure Lk where
 fr : Int
 to : Int
 cut : Bool
 q : List Msg
def lkC (l : Lk) : List AV := [.int .i64 l.fr, .int .i64 l.to, .bool l.cut, .list 45 (l.q.map Msg.v)]
theorem msgv_inj {l m : List Msg} (h : l.map Msg.v = m.map Msg.v) : l = m := map_inj' (fun a b h => by
 obtain ⟨a1,a2,a3,a4,a5,o,a6,a7,a8,a9⟩:=a
 obtain ⟨b1,b2,b3,b4,b5,p,b6,b7,b8,b9⟩:=b
 simp only [Msg.v,List.cons.injEq,AV.int.injEq,true_and] at h
 obtain ⟨rfl,rfl,rfl,rfl,rfl,h⟩:=h
 obtain ⟨h1,h2⟩:=List.append_inj h (by simp)
 simp only [List.cons.injEq,AV.int.injEq,true_and,and_true] at h2
 obtain ⟨rfl,rfl,rfl,rfl⟩:=h2
 rw [Td.ext h1]) h
theorem lkC_inj {s t : Lk} (h : lkC s = lkC t) : s = t := by
 obtain ⟨a,b,c,q⟩:=s
 obtain ⟨a',b',c',q'⟩:=t
 simp only [lkC,List.cons.injEq,AV.int.injEq,AV.bool.injEq,AV.list.injEq,true_and,and_true] at h
 obtain ⟨rfl,rfl,rfl,h⟩:=h
 rw [msgv_inj h]
theorem lks_inj {l m : List Lk} (h : l.map lkC = m.map lkC) : l = m := map_inj' (fun a b h => lkC_inj h) h
def okK (l : Lk) : Prop := l.q.length ≤ 9000
structure Nts where
 ls : List Lk
 bd : ls.length ≤ 9000
 bq : ∀ l ∈ ls,okK l
def Nts.v (d : Nts) : AV := .agg [.list 4 (d.ls.map lkC)]
theorem Nts.v_inj {s t : Nts} (h : s.v = t.v) : s = t := by
 obtain ⟨l,b,c⟩:=s
 obtain ⟨l',b',c'⟩:=t
 simp only [Nts.v,AV.agg.injEq,List.cons.injEq,AV.list.injEq,true_and,and_true] at h
 cases lks_inj h
 rfl
def befB (l : Lk) (f t : Int) : Bool := decide (l.fr < f) || (l.fr == f && decide (l.to < t))
noncomputable def befS : SpecFn := mkS (fun d : {l : Lk // okK l} × Int × Int => [.agg (lkC d.1.1), .int .i64 d.2.1, .int .i64 d.2.2]) fun d => (.bool (befB d.1.1 d.2.1 d.2.2),[])
theorem befS_eq (l : Lk) (h : okK l) (f t : Int) : befS [.agg (lkC l), .int .i64 f, .int .i64 t] [] = some (.bool (befB l f t),[]) :=
 mkS_eq (enc:=fun d : {l : Lk // okK l} × Int × Int=>[AV.agg (lkC d.1.1), .int .i64 d.2.1, .int .i64 d.2.2]) (res:=fun d=>(.bool (befB d.1.1 d.2.1 d.2.2),[])) (fun x y h=>by
   obtain ⟨a,b,c⟩:=x
   obtain ⟨a',b',c'⟩:=y
   simp only [List.cons.injEq,AV.agg.injEq,AV.int.injEq,true_and,and_true] at h
   obtain ⟨h1,rfl,rfl⟩:=h
   rw [lkC_inj h1]) (⟨l,h⟩,f,t)
attribute [local simp] instA slice3A slice3C
attribute [-simp] mkv
attribute [local simp] mkv_hd hdA_cons hdA_ob hdA_ob'
theorem bef_ok : FnC Try.prog 69 befS := by
 refine FnC.walk 69 (fn:=Try.f69) Try.func69 rfl (by kernel_rfl) fun d=>?_
 obtain ⟨⟨⟨a,b,c,q⟩,hl⟩,f,t⟩:=d
 change W _ (Ret _ _ (.bool (decide (a < f) || (a == f && decide (b < t)))) []) _ _ ⟨23,[(0, .agg [.int .i64 a, .int .i64 b, .bool c, .list 45 (q.map Msg.v)]),(1, .int .i64 f),(2, .int .i64 t)],[]⟩
 repeat' (first | intro (hb : _ = _) | refine ZV ?_ | refine ZB tm no_specs ?_ | refine ZH ?_ ?_ | refine ZJ (by conv=>lhs; simp) ?_ | refine ZA ?_ ?_)
 all_goals (first | refine Yd ?_ | refine Ye ?_)
 all_goals (first | rfl | (simp; done) | (simp_all; done) | (simp_all; omega))
theorem nnode_ok : FnC Try.prog 37 (boS okN) := by
 refine FnC.walk 37 (fn:=Try.f37) Try.func37 rfl (by kernel_rfl) fun m=>?_
 change W _ (Ret _ _ (.bool (okN m)) []) _ _ ⟨9,[(0, .int .i64 m)],[]⟩
 repeat' (first | intro (hb : _ = _) | refine ZV ?_ | refine ZB tm no_specs ?_ | refine ZH ?_ ?_ | refine ZJ (by conv=>lhs; simp) ?_ | refine ZA ?_ ?_)
 all_goals (first | refine Yd ?_ | refine Ye ?_)
 all_goals (first | rfl | (simp [okN]; done) | (simp_all [okN]; done) | (simp_all [okN]; omega))
def lkB (l : Lk) : Bool := okN l.fr && (okN l.to && (decide (l.q.length ≤ 4096) && (l.cut || !l.q.isEmpty)))
def goodK (l : List Lk) (j : Nat) : Bool := match l[j]? with
 | none=>true
 | some t=>lkB t && (t.q.all (fun m=>m.fr == t.fr && m.to == t.to) && match j with
   | 0=>true
   | i + 1=>match l[i]? with
     | some s=>befB s t.fr t.to
     | none=>true)
def validK (l : List Lk) : Bool := (List.range l.length).all (goodK l)
theorem validK_no {l : List Lk} {k : Nat} (h : k < l.length) (hg : goodK l k = false) : validK l = false := by
 unfold validK
 rw [List.all_eq_false]
 exact ⟨k,List.mem_range.2 h,by simp [hg]⟩
theorem validK_yes {l : List Lk} (h : ∀ k,k < l.length → goodK l k = true) : validK l = true := by
 unfold validK
 rw [List.all_eq_true]
 exact fun k hk=>h k (List.mem_range.1 hk)
noncomputable def vkS : SpecFn := mkS (fun d : Nts => [d.v]) fun d => (.bool (validK d.ls),[])
theorem vkS_eq (d : Nts) : vkS [d.v] [] = some (.bool (validK d.ls),[]) :=
 mkS_eq (enc:=fun d : Nts=>[d.v]) (fun x y h=>by
   simp only [List.cons.injEq,and_true] at h
   cases Nts.v_inj h
   rfl) d
noncomputable def rvk_specs21 : NL Spec := [(37,⟨1,boS okN⟩),(69,⟨1,befS⟩)]
theorem rvk_specs21_ok : ∀ p ∈ rvk_specs21,FnC Try.prog p.1 p.2.fn := by
 simp only [rvk_specs21,List.mem_cons,List.not_mem_nil,or_false]
 rintro p (rfl | rfl)
 · exact nnode_ok
 · exact bef_ok
attribute [local simp] rvk_specs21
theorem rvk21_ok : FnC Try.prog 36 vkS := by
 refine FnC.walk 36 (fn:=Try.f36) Try.func36 rfl (by kernel_rfl) fun d=>?_
 obtain ⟨l,hl,he⟩:=d
 change W _ (Ret _ _ (.bool (validK l)) []) _ _ ⟨79,[(0, .agg [.list 4 (l.map lkC)])],[]⟩
 have cap : l.length ≤ 9223372036854775807:=by omega
 repeat' (first | intro (hb : _ = _) | refine ZV ?_ | refine ZB tm rvk_specs21_ok ?_ | refine ZH ?_ ?_ | refine ZJ (by conv=>lhs; simp [cap]) ?_ | refine ZA ?_ ?_)
 refine W.loop rfl (ι:={ q : Nat × NL ABlk // q.1 ≤ l.length ∧ (∀ j,j < q.1 → goodK l j = true) ∧ lk q.2 32 = some { gen:=1,kind:=2,elem:=26,size:=1,inl:=false,rows:=[[.list 4 (l.map lkC)]] } })
   (fun q=>⟨79,[(1, .ptr 32 1 0 0),(8, .list 4 (l.map lkC)),(9, .int .i64 l.length),(10, .int .i64 (q.1.1 : Nat))],q.1.2⟩) (fun q=>l.length - q.1.1)
   ⟨(0,_),by simp,fun j hj=>absurd hj (by simp),rfl⟩ (AS.le_of rfl ⟨rfl,rfl,rfl,rfl,trivial⟩ (fun _=>rfl)) ?_
 rintro ⟨⟨k,h⟩,hk,hg,h1⟩
 dsimp only at hk hg h1 ⊢
 by_cases hk2 : k = l.length
 · subst hk2
   rw [validK_yes hg]
   repeat' (first | intro (hb : _ = _) | refine ZV ?_ | refine ZB tm rvk_specs21_ok ?_ | refine ZH ?_ ?_ | refine ZJ (by conv=>lhs; simp) ?_ | refine ZA ?_ ?_)
   all_goals (first | refine Yd ?_ | refine Ye ?_)
   all_goals (first | rfl | (simp; done) | (simp_all; done) | (simp_all; omega))
 · have hlt : k < l.length:=by omega
   obtain ⟨⟨a,b,c,q⟩,hr⟩:=get_lt hlt
   have hm : (l.map lkC)[k]? = some [.int .i64 a, .int .i64 b, .bool c, .list 45 (q.map Msg.v)]:=by rw [List.getElem?_map,hr]; rfl
   have q1 : (k : Int) < l.length:=by omega
   have q2 : ¬ l.length ≤ k:=by omega
   have hw : IntKind.i64.wrap ((k : Int) + 1) = ((k + 1 : Nat) : Int):=w64 (by omega) (by omega)
   have hqb : q.length ≤ 9000:=he _ (List.mem_of_getElem? hr)
   have cq : q.length ≤ 9223372036854775807:=by omega
   have n1:=boS_eq okN a
   have n2:=boS_eq okN b
   cases hb : lkB ⟨a,b,c,q⟩ with
   | false =>
     rw [validK_no hlt (by simp [goodK,hr,hb])]
     clear hg hr he hlt hk2
     unfold lkB at hb
     dsimp only at hb
     generalize okN a = x1 at *
     generalize okN b = x2 at *
     cases x1 with
     | false =>
       clear hb
       repeat' (first | intro (hb : _ = _) | refine ZV ?_ | refine ZB tm rvk_specs21_ok ?_ | refine ZH ?_ ?_ | refine ZJ (by conv=>lhs; simp [q1,q2,hm,n1,n2,cq]) ?_ | refine ZA ?_ ?_)
       all_goals (first | refine Yd ?_ | refine Ye ?_)
       all_goals (first | rfl | (simp; done) | (simp_all; done) | (simp_all; omega))
     | true =>
       cases x2 with
       | false =>
         clear hb
         repeat' (first | intro (hb : _ = _) | refine ZV ?_ | refine ZB tm rvk_specs21_ok ?_ | refine ZH ?_ ?_ | refine ZJ (by conv=>lhs; simp [q1,q2,hm,n1,n2,cq]) ?_ | refine ZA ?_ ?_)
         all_goals (first | refine Yd ?_ | refine Ye ?_)
         all_goals (first | rfl | (simp; done) | (simp_all; done) | (simp_all; omega))
       | true =>
         by_cases h3 : q.length ≤ 4096
         · have c3 : ¬ (4096 : Int) < q.length:=by omega
           have hc : c = false ∧ q = []:=by simpa [h3] using hb
           obtain ⟨rfl,rfl⟩:=hc
           clear hb hqb
           repeat' (first | intro (hb : _ = _) | refine ZV ?_ | refine ZB tm rvk_specs21_ok ?_ | refine ZH ?_ ?_ | refine ZJ (by conv=>lhs; simp [q1,q2,hm,n1,n2,cq,c3]) ?_ | refine ZA ?_ ?_)
           all_goals (first | refine Yd ?_ | refine Ye ?_)
           all_goals (first | rfl | (simp; done) | (simp_all; done) | (simp_all; omega))
         · have c3 : (4096 : Int) < q.length:=by omega
           clear hb
           repeat' (first | intro (hb : _ = _) | refine ZV ?_ | refine ZB tm rvk_specs21_ok ?_ | refine ZH ?_ ?_ | refine ZJ (by conv=>lhs; simp [q1,q2,hm,n1,n2,cq,c3]) ?_ | refine ZA ?_ ?_)
           all_goals (first | refine Yd ?_ | refine Ye ?_)
           all_goals (first | rfl | (simp; done) | (simp_all; done) | (simp_all; omega))
   | true =>
     have hb':=hb
     unfold lkB at hb
     simp only [Bool.and_eq_true,decide_eq_true_eq,Bool.or_eq_true] at hb
     obtain ⟨o1,o2,h3,h4⟩:=hb
     rw [o1] at n1
     rw [o2] at n2
     have c3 : ¬ (4096 : Int) < q.length:=by omega
     have hbad : ∀ m ∈ q, ¬ (m.fr = a ∧ m.to = b) → goodK l k = false:=fun m hmq hne=>by
       have : q.all (fun m=>m.fr == a && m.to == b) = false:=by
         rw [List.all_eq_false]
         exact ⟨m,hmq,by simpa using hne⟩
       unfold goodK
       simp only [hr,this,Bool.false_and,Bool.and_false]
     have hall0 : (∀ m ∈ q,m.fr = a ∧ m.to = b) → q.all (fun m=>m.fr == a && m.to == b) = true:=fun h=>by
       rw [List.all_eq_true]
       exact fun m hm=>by simpa using h m hm
     have hc4 : (c = true ∧ (q.length == 0) = (q.length == 0)) ∨ (c = false ∧ ((q.length : Int) == 0) = false):=by
       cases c with
       | true=>exact .inl ⟨rfl,rfl⟩
       | false =>
         right
         refine ⟨rfl, ?_⟩
         have : q ≠ []:=by rintro rfl; simp at h4
         have:=List.length_pos_iff.2 this
         simp; omega
     have hx : k = 0 ∨ (∃ j s,k = j + 1 ∧ l[j]? = some s ∧ befB s a b = true) ∨ (∃ j s,k = j + 1 ∧ l[j]? = some s ∧ befB s a b = false):=by
       cases k with
       | zero=>exact .inl rfl
       | succ j =>
         right
         obtain ⟨s,hs⟩:=get_lt (l:=l) (i:=j) (by omega)
         cases hbb : befB s a b
         · exact .inr ⟨j,s,rfl,hs,hbb⟩
         · exact .inl ⟨j,s,rfl,hs,hbb⟩
     rcases hx with hk0 | ⟨j0,s,hkj,hs,hbb⟩ | ⟨j0,s,hkj,hs,hbb⟩
     · have q5 : ¬ (0 : Int) < (k : Int):=by omega
       have q6 : ¬ 0 < k:=by omega
       have hgood : (∀ m ∈ q,m.fr = a ∧ m.to = b) → goodK l k = true:=fun h=>by
         have:=hall0 h
         subst hk0
         unfold goodK
         simp only [hr,hb',this,Bool.true_and]
       obtain ⟨G,hG⟩ : ∃ G,((lk h 80).getD { }).gen + 1 = G:=⟨_,rfl⟩
       clear hall0 hk0
       rcases hc4 with ⟨rfl, -⟩ | ⟨rfl,e0⟩
       · repeat' (first | intro (hb : _ = _) | refine ZV ?_ | refine ZB (id:=2) tm rvk_specs21_ok ?_ | refine ZB (id:=3) tm rvk_specs21_ok ?_ | refine ZB (id:=4) tm rvk_specs21_ok ?_ | refine ZB (id:=5) tm rvk_specs21_ok ?_ | refine ZB (id:=6) tm rvk_specs21_ok ?_ | refine ZB (id:=7) tm rvk_specs21_ok ?_ | refine ZB (id:=8) tm rvk_specs21_ok ?_ | refine ZH ?_ ?_ | refine ZJ (by conv=>lhs; simp [q1,q2,hm,n1,n2,cq,c3,q5,q6,hG]) ?_ | refine ZA ?_ ?_)
         refine W.loop rfl (ι:={ x : Nat × NL ABlk // x.1 ≤ q.length ∧ (∀ m ∈ q.take x.1,m.fr = a ∧ m.to = b) ∧ lk x.2 32 = some { gen:=1,kind:=2,elem:=26,size:=1,inl:=false,rows:=[[.list 4 (l.map lkC)]] } ∧ lk x.2 80 = some { gen:=G,kind:=2,elem:=74,size:=4,inl:=false,rows:=[[.int .i64 a, .int .i64 b, .bool true, .list 45 (q.map Msg.v)]] } })
           (fun x=>⟨79,[(1, .ptr 32 1 0 0),(4, .ptr 80 G 0 0),(8, .list 4 (l.map lkC)),(9, .int .i64 l.length),(10, .int .i64 (k : Nat)),(59, .list 45 (q.map Msg.v)),(60, .int .i64 q.length),(61, .int .i64 (x.1.1 : Nat))],x.1.2⟩) (fun x=>q.length - x.1.1)
           ⟨(0,_),by simp,by simp,by simp [lk_st,h1],by simp [lk_st]⟩ (AS.le_of rfl ⟨rfl,rfl,rfl,rfl,rfl,rfl,rfl,rfl,trivial⟩ (fun _=>rfl)) ?_
         clear h1 hG h hm
         rintro ⟨⟨j,h⟩,hj,hall,h1,h4⟩
         dsimp only at hj hall h1 h4 ⊢
         by_cases hj2 : j = q.length
         · subst hj2
           rw [List.take_length] at hall
           have hgk : goodK l k = true:=hgood hall
           have hgn : ∀ j,j < k + 1 → goodK l j = true:=fun j hj=>by
             by_cases e : j = k
             · subst e; exact hgk
             · exact hg j (by omega)
           repeat' (first | intro (hb : _ = _) | refine ZV ?_ | refine ZB tm rvk_specs21_ok ?_ | refine ZH ?_ ?_ | refine ZJ (by conv=>lhs; simp [hw]) ?_ | refine ZA ?_ ?_)
           exact ⟨⟨(k + 1,_),hlt,hgn,by simp [lk_st,h1]⟩,by dsimp only; omega,AS.le_of rfl ⟨rfl,rfl,rfl,rfl,trivial⟩ (fun _=>rfl)⟩
         · have hjl : j < q.length:=by omega
           obtain ⟨m,hrm⟩:=get_lt hjl
           have hmm : (q.map Msg.v)[j]? = some m.v:=by rw [List.getElem?_map,hrm]; rfl
           have p1 : (j : Int) < q.length:=by omega
           have p2 : ¬ q.length ≤ j:=by omega
           have pw : IntKind.i64.wrap ((j : Int) + 1) = ((j + 1 : Nat) : Int):=w64 (by omega) (by omega)
           have hmem:=List.mem_of_getElem? hrm
           by_cases h5 : m.fr = a ∧ m.to = b
           · have hall2 : ∀ m ∈ q.take (j + 1),m.fr = a ∧ m.to = b:=fun y hy=>by
               rw [List.take_add_one,hrm] at hy
               simp only [Option.toList_some,List.mem_append,List.mem_singleton] at hy
               rcases hy with hy | rfl
               · exact hall y hy
               · exact h5
             obtain ⟨h5a,h5b⟩:=h5
             have e1 : (m.fr != a) = false:=by simp [h5a]
             have e2 : (m.to != b) = false:=by simp [h5b]
             obtain ⟨m1,m2,m3,m4,m5,o,m6,m7,m8,m9⟩:=m
             simp only [Msg.v] at hmm
             dsimp only at e1 e2
             clear h5a h5b
             repeat' (first | intro (hb : _ = _) | refine ZV ?_ | refine ZB tm rvk_specs21_ok ?_ | refine ZH ?_ ?_ | refine ZJ (by conv=>lhs; simp [p1,p2,hmm,h4,e1,e2,pw]) ?_ | refine ZA ?_ ?_)
             exact ⟨⟨(j + 1,_),hjl,hall2,by simp [lk_st,h1],by simp [lk_st,h4]⟩,by dsimp only; omega,AS.le_of rfl ⟨rfl,rfl,rfl,rfl,rfl,rfl,rfl,rfl,trivial⟩ (fun _=>rfl)⟩
           · rw [validK_no hlt (hbad m hmem h5)]
             have e3 : (m.fr != a || m.to != b) = true:=by
               by_cases h6 : m.fr = a
               · have : m.to ≠ b:=fun h7=>h5 ⟨h6,h7⟩
                 simp [this]
               · simp [h6]
             obtain ⟨m1,m2,m3,m4,m5,o,m6,m7,m8,m9⟩:=m
             simp only [Msg.v] at hmm
             dsimp only at e3
             by_cases h6 : (m1 != a) = true
             · clear e3 h5
               repeat' (first | intro (hb : _ = _) | refine ZV ?_ | refine ZB tm rvk_specs21_ok ?_ | refine ZH ?_ ?_ | refine ZJ (by conv=>lhs; simp [p1,p2,hmm,h4,h6]) ?_ | refine ZA ?_ ?_)
               all_goals (first | refine Yd ?_ | refine Ye ?_)
               all_goals (first | rfl | (simp; done) | (simp_all; done) | (simp_all; omega))
             · have e1 : (m1 != a) = false:=by simpa using h6
               have e2 : (m2 != b) = true:=by rw [e1] at e3; simpa using e3
               clear e3 h5 h6
               repeat' (first | intro (hb : _ = _) | refine ZV ?_ | refine ZB tm rvk_specs21_ok ?_ | refine ZH ?_ ?_ | refine ZJ (by conv=>lhs; simp [p1,p2,hmm,h4,e1,e2]) ?_ | refine ZA ?_ ?_)
               all_goals (first | refine Yd ?_ | refine Ye ?_)
               all_goals (first | rfl | (simp; done) | (simp_all; done) | (simp_all; omega))
       · repeat' (first | intro (hb : _ = _) | refine ZV ?_ | refine ZB (id:=2) tm rvk_specs21_ok ?_ | refine ZB (id:=3) tm rvk_specs21_ok ?_ | refine ZB (id:=4) tm rvk_specs21_ok ?_ | refine ZB (id:=5) tm rvk_specs21_ok ?_ | refine ZB (id:=6) tm rvk_specs21_ok ?_ | refine ZB (id:=7) tm rvk_specs21_ok ?_ | refine ZB (id:=8) tm rvk_specs21_ok ?_ | refine ZH ?_ ?_ | refine ZJ (by conv=>lhs; simp [q1,q2,hm,n1,n2,cq,c3,q5,q6,e0,hG]) ?_ | refine ZA ?_ ?_)
         refine W.loop rfl (ι:={ x : Nat × NL ABlk // x.1 ≤ q.length ∧ (∀ m ∈ q.take x.1,m.fr = a ∧ m.to = b) ∧ lk x.2 32 = some { gen:=1,kind:=2,elem:=26,size:=1,inl:=false,rows:=[[.list 4 (l.map lkC)]] } ∧ lk x.2 80 = some { gen:=G,kind:=2,elem:=74,size:=4,inl:=false,rows:=[[.int .i64 a, .int .i64 b, .bool false, .list 45 (q.map Msg.v)]] } })
           (fun x=>⟨79,[(1, .ptr 32 1 0 0),(4, .ptr 80 G 0 0),(8, .list 4 (l.map lkC)),(9, .int .i64 l.length),(10, .int .i64 (k : Nat)),(59, .list 45 (q.map Msg.v)),(60, .int .i64 q.length),(61, .int .i64 (x.1.1 : Nat))],x.1.2⟩) (fun x=>q.length - x.1.1)
           ⟨(0,_),by simp,by simp,by simp [lk_st,h1],by simp [lk_st]⟩ (AS.le_of rfl ⟨rfl,rfl,rfl,rfl,rfl,rfl,rfl,rfl,trivial⟩ (fun _=>rfl)) ?_
         clear h1 hG h hm
         rintro ⟨⟨j,h⟩,hj,hall,h1,h4⟩
         dsimp only at hj hall h1 h4 ⊢
         by_cases hj2 : j = q.length
         · subst hj2
           rw [List.take_length] at hall
           have hgk : goodK l k = true:=hgood hall
           have hgn : ∀ j,j < k + 1 → goodK l j = true:=fun j hj=>by
             by_cases e : j = k
             · subst e; exact hgk
             · exact hg j (by omega)
           repeat' (first | intro (hb : _ = _) | refine ZV ?_ | refine ZB tm rvk_specs21_ok ?_ | refine ZH ?_ ?_ | refine ZJ (by conv=>lhs; simp [hw]) ?_ | refine ZA ?_ ?_)
           exact ⟨⟨(k + 1,_),hlt,hgn,by simp [lk_st,h1]⟩,by dsimp only; omega,AS.le_of rfl ⟨rfl,rfl,rfl,rfl,trivial⟩ (fun _=>rfl)⟩
         · have hjl : j < q.length:=by omega
           obtain ⟨m,hrm⟩:=get_lt hjl
           have hmm : (q.map Msg.v)[j]? = some m.v:=by rw [List.getElem?_map,hrm]; rfl
           have p1 : (j : Int) < q.length:=by omega
           have p2 : ¬ q.length ≤ j:=by omega
           have pw : IntKind.i64.wrap ((j : Int) + 1) = ((j + 1 : Nat) : Int):=w64 (by omega) (by omega)
           have hmem:=List.mem_of_getElem? hrm
           by_cases h5 : m.fr = a ∧ m.to = b
           · have hall2 : ∀ m ∈ q.take (j + 1),m.fr = a ∧ m.to = b:=fun y hy=>by
               rw [List.take_add_one,hrm] at hy
               simp only [Option.toList_some,List.mem_append,List.mem_singleton] at hy
               rcases hy with hy | rfl
               · exact hall y hy
               · exact h5
             obtain ⟨h5a,h5b⟩:=h5
             have e1 : (m.fr != a) = false:=by simp [h5a]
             have e2 : (m.to != b) = false:=by simp [h5b]
             obtain ⟨m1,m2,m3,m4,m5,o,m6,m7,m8,m9⟩:=m
             simp only [Msg.v] at hmm
             dsimp only at e1 e2
             clear h5a h5b
             repeat' (first | intro (hb : _ = _) | refine ZV ?_ | refine ZB tm rvk_specs21_ok ?_ | refine ZH ?_ ?_ | refine ZJ (by conv=>lhs; simp [p1,p2,hmm,h4,e1,e2,pw]) ?_ | refine ZA ?_ ?_)
             exact ⟨⟨(j + 1,_),hjl,hall2,by simp [lk_st,h1],by simp [lk_st,h4]⟩,by dsimp only; omega,AS.le_of rfl ⟨rfl,rfl,rfl,rfl,rfl,rfl,rfl,rfl,trivial⟩ (fun _=>rfl)⟩
           · rw [validK_no hlt (hbad m hmem h5)]
             have e3 : (m.fr != a || m.to != b) = true:=by
               by_cases h6 : m.fr = a
               · have : m.to ≠ b:=fun h7=>h5 ⟨h6,h7⟩
                 simp [this]
               · simp [h6]
             obtain ⟨m1,m2,m3,m4,m5,o,m6,m7,m8,m9⟩:=m
             simp only [Msg.v] at hmm
             dsimp only at e3
             by_cases h6 : (m1 != a) = true
             · clear e3 h5
               repeat' (first | intro (hb : _ = _) | refine ZV ?_ | refine ZB tm rvk_specs21_ok ?_ | refine ZH ?_ ?_ | refine ZJ (by conv=>lhs; simp [p1,p2,hmm,h4,h6]) ?_ | refine ZA ?_ ?_)
               all_goals (first | refine Yd ?_ | refine Ye ?_)
               all_goals (first | rfl | (simp; done) | (simp_all; done) | (simp_all; omega))
             · have e1 : (m1 != a) = false:=by simpa using h6
               have e2 : (m2 != b) = true:=by rw [e1] at e3; simpa using e3
               clear e3 h5 h6
               repeat' (first | intro (hb : _ = _) | refine ZV ?_ | refine ZB tm rvk_specs21_ok ?_ | refine ZH ?_ ?_ | refine ZJ (by conv=>lhs; simp [p1,p2,hmm,h4,e1,e2]) ?_ | refine ZA ?_ ?_)
               all_goals (first | refine Yd ?_ | refine Ye ?_)
               all_goals (first | rfl | (simp; done) | (simp_all; done) | (simp_all; omega))
     · have hms : (l.map lkC)[j0]? = some (lkC s):=by rw [List.getElem?_map,hs]; rfl
       have q3 : ¬ l.length ≤ j0:=by omega
       have q4 : (0 : Int) < (k : Int):=by omega
       have q4' : 0 < k:=by omega
       have hd : IntKind.i64.wrap ((k : Int) - 1) = (j0 : Int):=by rw [w64 (by omega) (by omega)]; omega
       have q1' : (j0 : Int) < l.length:=by omega
       have cb:=befS_eq s (he s (List.mem_of_getElem? hs)) a b
       rw [hbb] at cb
       have hgood : (∀ m ∈ q,m.fr = a ∧ m.to = b) → goodK l k = true:=fun h=>by
         have:=hall0 h
         subst hkj
         unfold goodK
         simp only [hr,hb',this,hs,hbb,Bool.true_and]
       obtain ⟨s1,s2,s3,s4⟩:=s
       simp only [lkC] at hms cb
       obtain ⟨G,hG⟩ : ∃ G,((lk h 80).getD { }).gen + 1 = G:=⟨_,rfl⟩
       clear hall0
       rcases hc4 with ⟨rfl, -⟩ | ⟨rfl,e0⟩
       · repeat' (first | intro (hb : _ = _) | refine ZV ?_ | refine ZB (id:=2) tm rvk_specs21_ok ?_ | refine ZB (id:=3) tm rvk_specs21_ok ?_ | refine ZB (id:=4) tm rvk_specs21_ok ?_ | refine ZB (id:=5) tm rvk_specs21_ok ?_ | refine ZB (id:=6) tm rvk_specs21_ok ?_ | refine ZB (id:=7) tm rvk_specs21_ok ?_ | refine ZB (id:=8) tm rvk_specs21_ok ?_ | refine ZH ?_ ?_ | refine ZJ (by conv=>lhs; simp [q1,q1',q2,q3,q4,q4',hm,hms,n1,n2,cq,c3,hd,cb,h1,hG]) ?_ | refine ZA ?_ ?_)
         refine W.loop rfl (ι:={ x : Nat × NL ABlk // x.1 ≤ q.length ∧ (∀ m ∈ q.take x.1,m.fr = a ∧ m.to = b) ∧ lk x.2 32 = some { gen:=1,kind:=2,elem:=26,size:=1,inl:=false,rows:=[[.list 4 (l.map lkC)]] } ∧ lk x.2 80 = some { gen:=G,kind:=2,elem:=74,size:=4,inl:=false,rows:=[[.int .i64 a, .int .i64 b, .bool true, .list 45 (q.map Msg.v)]] } })
           (fun x=>⟨79,[(1, .ptr 32 1 0 0),(4, .ptr 80 G 0 0),(8, .list 4 (l.map lkC)),(9, .int .i64 l.length),(10, .int .i64 (k : Nat)),(59, .list 45 (q.map Msg.v)),(60, .int .i64 q.length),(61, .int .i64 (x.1.1 : Nat))],x.1.2⟩) (fun x=>q.length - x.1.1)
           ⟨(0,_),by simp,by simp,by simp [lk_st,h1],by simp [lk_st]⟩ (AS.le_of rfl ⟨rfl,rfl,rfl,rfl,rfl,rfl,rfl,rfl,trivial⟩ (fun _=>rfl)) ?_
         clear h1 hG h hm
         rintro ⟨⟨j,h⟩,hj,hall,h1,h4⟩
         dsimp only at hj hall h1 h4 ⊢
         by_cases hj2 : j = q.length
         · subst hj2
           rw [List.take_length] at hall
           have hgk : goodK l k = true:=hgood hall
           have hgn : ∀ j,j < k + 1 → goodK l j = true:=fun j hj=>by
             by_cases e : j = k
             · subst e; exact hgk
             · exact hg j (by omega)
           repeat' (first | intro (hb : _ = _) | refine ZV ?_ | refine ZB tm rvk_specs21_ok ?_ | refine ZH ?_ ?_ | refine ZJ (by conv=>lhs; simp [hw]) ?_ | refine ZA ?_ ?_)
           exact ⟨⟨(k + 1,_),hlt,hgn,by simp [lk_st,h1]⟩,by dsimp only; omega,AS.le_of rfl ⟨rfl,rfl,rfl,rfl,trivial⟩ (fun _=>rfl)⟩
         · have hjl : j < q.length:=by omega
           obtain ⟨m,hrm⟩:=get_lt hjl
           have hmm : (q.map Msg.v)[j]? = some m.v:=by rw [List.getElem?_map,hrm]; rfl
           have p1 : (j : Int) < q.length:=by omega
           have p2 : ¬ q.length ≤ j:=by omega
           have pw : IntKind.i64.wrap ((j : Int) + 1) = ((j + 1 : Nat) : Int):=w64 (by omega) (by omega)
           have hmem:=List.mem_of_getElem? hrm
           by_cases h5 : m.fr = a ∧ m.to = b
           · have hall2 : ∀ m ∈ q.take (j + 1),m.fr = a ∧ m.to = b:=fun y hy=>by
               rw [List.take_add_one,hrm] at hy
               simp only [Option.toList_some,List.mem_append,List.mem_singleton] at hy
               rcases hy with hy | rfl
               · exact hall y hy
               · exact h5
             obtain ⟨h5a,h5b⟩:=h5
             have e1 : (m.fr != a) = false:=by simp [h5a]
             have e2 : (m.to != b) = false:=by simp [h5b]
             obtain ⟨m1,m2,m3,m4,m5,o,m6,m7,m8,m9⟩:=m
             simp only [Msg.v] at hmm
             dsimp only at e1 e2
             clear h5a h5b
             repeat' (first | intro (hb : _ = _) | refine ZV ?_ | refine ZB tm rvk_specs21_ok ?_ | refine ZH ?_ ?_ | refine ZJ (by conv=>lhs; simp [p1,p2,hmm,h4,e1,e2,pw]) ?_ | refine ZA ?_ ?_)
             exact ⟨⟨(j + 1,_),hjl,hall2,by simp [lk_st,h1],by simp [lk_st,h4]⟩,by dsimp only; omega,AS.le_of rfl ⟨rfl,rfl,rfl,rfl,rfl,rfl,rfl,rfl,trivial⟩ (fun _=>rfl)⟩
           · rw [validK_no hlt (hbad m hmem h5)]
             have e3 : (m.fr != a || m.to != b) = true:=by
               by_cases h6 : m.fr = a
               · have : m.to ≠ b:=fun h7=>h5 ⟨h6,h7⟩
                 simp [this]
               · simp [h6]
             obtain ⟨m1,m2,m3,m4,m5,o,m6,m7,m8,m9⟩:=m
             simp only [Msg.v] at hmm
             dsimp only at e3
             by_cases h6 : (m1 != a) = true
             · clear e3 h5
               repeat' (first | intro (hb : _ = _) | refine ZV ?_ | refine ZB tm rvk_specs21_ok ?_ | refine ZH ?_ ?_ | refine ZJ (by conv=>lhs; simp [p1,p2,hmm,h4,h6]) ?_ | refine ZA ?_ ?_)
               all_goals (first | refine Yd ?_ | refine Ye ?_)
               all_goals (first | rfl | (simp; done) | (simp_all; done) | (simp_all; omega))
             · have e1 : (m1 != a) = false:=by simpa using h6
               have e2 : (m2 != b) = true:=by rw [e1] at e3; simpa using e3
               clear e3 h5 h6
               repeat' (first | intro (hb : _ = _) | refine ZV ?_ | refine ZB tm rvk_specs21_ok ?_ | refine ZH ?_ ?_ | refine ZJ (by conv=>lhs; simp [p1,p2,hmm,h4,e1,e2]) ?_ | refine ZA ?_ ?_)
               all_goals (first | refine Yd ?_ | refine Ye ?_)
               all_goals (first | rfl | (simp; done) | (simp_all; done) | (simp_all; omega))
       · repeat' (first | intro (hb : _ = _) | refine ZV ?_ | refine ZB (id:=2) tm rvk_specs21_ok ?_ | refine ZB (id:=3) tm rvk_specs21_ok ?_ | refine ZB (id:=4) tm rvk_specs21_ok ?_ | refine ZB (id:=5) tm rvk_specs21_ok ?_ | refine ZB (id:=6) tm rvk_specs21_ok ?_ | refine ZB (id:=7) tm rvk_specs21_ok ?_ | refine ZB (id:=8) tm rvk_specs21_ok ?_ | refine ZH ?_ ?_ | refine ZJ (by conv=>lhs; simp [q1,q1',q2,q3,q4,q4',hm,hms,n1,n2,cq,c3,hd,cb,h1,e0,hG]) ?_ | refine ZA ?_ ?_)
         refine W.loop rfl (ι:={ x : Nat × NL ABlk // x.1 ≤ q.length ∧ (∀ m ∈ q.take x.1,m.fr = a ∧ m.to = b) ∧ lk x.2 32 = some { gen:=1,kind:=2,elem:=26,size:=1,inl:=false,rows:=[[.list 4 (l.map lkC)]] } ∧ lk x.2 80 = some { gen:=G,kind:=2,elem:=74,size:=4,inl:=false,rows:=[[.int .i64 a, .int .i64 b, .bool false, .list 45 (q.map Msg.v)]] } })
           (fun x=>⟨79,[(1, .ptr 32 1 0 0),(4, .ptr 80 G 0 0),(8, .list 4 (l.map lkC)),(9, .int .i64 l.length),(10, .int .i64 (k : Nat)),(59, .list 45 (q.map Msg.v)),(60, .int .i64 q.length),(61, .int .i64 (x.1.1 : Nat))],x.1.2⟩) (fun x=>q.length - x.1.1)
           ⟨(0,_),by simp,by simp,by simp [lk_st,h1],by simp [lk_st]⟩ (AS.le_of rfl ⟨rfl,rfl,rfl,rfl,rfl,rfl,rfl,rfl,trivial⟩ (fun _=>rfl)) ?_
         clear h1 hG h hm
         rintro ⟨⟨j,h⟩,hj,hall,h1,h4⟩
         dsimp only at hj hall h1 h4 ⊢
         by_cases hj2 : j = q.length
         · subst hj2
           rw [List.take_length] at hall
           have hgk : goodK l k = true:=hgood hall
           have hgn : ∀ j,j < k + 1 → goodK l j = true:=fun j hj=>by
             by_cases e : j = k
             · subst e; exact hgk
             · exact hg j (by omega)
           repeat' (first | intro (hb : _ = _) | refine ZV ?_ | refine ZB tm rvk_specs21_ok ?_ | refine ZH ?_ ?_ | refine ZJ (by conv=>lhs; simp [hw]) ?_ | refine ZA ?_ ?_)
           exact ⟨⟨(k + 1,_),hlt,hgn,by simp [lk_st,h1]⟩,by dsimp only; omega,AS.le_of rfl ⟨rfl,rfl,rfl,rfl,trivial⟩ (fun _=>rfl)⟩
         · have hjl : j < q.length:=by omega
           obtain ⟨m,hrm⟩:=get_lt hjl
           have hmm : (q.map Msg.v)[j]? = some m.v:=by rw [List.getElem?_map,hrm]; rfl
           have p1 : (j : Int) < q.length:=by omega
           have p2 : ¬ q.length ≤ j:=by omega
           have pw : IntKind.i64.wrap ((j : Int) + 1) = ((j + 1 : Nat) : Int):=w64 (by omega) (by omega)
           have hmem:=List.mem_of_getElem? hrm
           by_cases h5 : m.fr = a ∧ m.to = b
           · have hall2 : ∀ m ∈ q.take (j + 1),m.fr = a ∧ m.to = b:=fun y hy=>by
               rw [List.take_add_one,hrm] at hy
               simp only [Option.toList_some,List.mem_append,List.mem_singleton] at hy
               rcases hy with hy | rfl
               · exact hall y hy
               · exact h5
             obtain ⟨h5a,h5b⟩:=h5
             have e1 : (m.fr != a) = false:=by simp [h5a]
             have e2 : (m.to != b) = false:=by simp [h5b]
             obtain ⟨m1,m2,m3,m4,m5,o,m6,m7,m8,m9⟩:=m
             simp only [Msg.v] at hmm
             dsimp only at e1 e2
             clear h5a h5b
             repeat' (first | intro (hb : _ = _) | refine ZV ?_ | refine ZB tm rvk_specs21_ok ?_ | refine ZH ?_ ?_ | refine ZJ (by conv=>lhs; simp [p1,p2,hmm,h4,e1,e2,pw]) ?_ | refine ZA ?_ ?_)
             exact ⟨⟨(j + 1,_),hjl,hall2,by simp [lk_st,h1],by simp [lk_st,h4]⟩,by dsimp only; omega,AS.le_of rfl ⟨rfl,rfl,rfl,rfl,rfl,rfl,rfl,rfl,trivial⟩ (fun _=>rfl)⟩
           · rw [validK_no hlt (hbad m hmem h5)]
             have e3 : (m.fr != a || m.to != b) = true:=by
               by_cases h6 : m.fr = a
               · have : m.to ≠ b:=fun h7=>h5 ⟨h6,h7⟩
                 simp [this]
               · simp [h6]
             obtain ⟨m1,m2,m3,m4,m5,o,m6,m7,m8,m9⟩:=m
             simp only [Msg.v] at hmm
             dsimp only at e3
             by_cases h6 : (m1 != a) = true
             · clear e3 h5
               repeat' (first | intro (hb : _ = _) | refine ZV ?_ | refine ZB tm rvk_specs21_ok ?_ | refine ZH ?_ ?_ | refine ZJ (by conv=>lhs; simp [p1,p2,hmm,h4,h6]) ?_ | refine ZA ?_ ?_)
               all_goals (first | refine Yd ?_ | refine Ye ?_)
               all_goals (first | rfl | (simp; done) | (simp_all; done) | (simp_all; omega))
             · have e1 : (m1 != a) = false:=by simpa using h6
               have e2 : (m2 != b) = true:=by rw [e1] at e3; simpa using e3
               clear e3 h5 h6
               repeat' (first | intro (hb : _ = _) | refine ZV ?_ | refine ZB tm rvk_specs21_ok ?_ | refine ZH ?_ ?_ | refine ZJ (by conv=>lhs; simp [p1,p2,hmm,h4,e1,e2]) ?_ | refine ZA ?_ ?_)
               all_goals (first | refine Yd ?_ | refine Ye ?_)
               all_goals (first | rfl | (simp; done) | (simp_all; done) | (simp_all; omega))
     · have hms : (l.map lkC)[j0]? = some (lkC s):=by rw [List.getElem?_map,hs]; rfl
       have q3 : ¬ l.length ≤ j0:=by omega
       have q4 : (0 : Int) < (k : Int):=by omega
       have q4' : 0 < k:=by omega
       have hd : IntKind.i64.wrap ((k : Int) - 1) = (j0 : Int):=by rw [w64 (by omega) (by omega)]; omega
       have q1' : (j0 : Int) < l.length:=by omega
       have cb:=befS_eq s (he s (List.mem_of_getElem? hs)) a b
       rw [hbb] at cb
       rw [validK_no hlt (by subst hkj; unfold goodK; simp only [hr,hs,hbb,Bool.and_false])]
       obtain ⟨s1,s2,s3,s4⟩:=s
       simp only [lkC] at hms cb
       rcases hc4 with ⟨rfl, -⟩ | ⟨rfl,e0⟩
       · repeat' (first | intro (hb : _ = _) | refine ZV ?_ | refine ZB tm rvk_specs21_ok ?_ | refine ZH ?_ ?_ | refine ZJ (by conv=>lhs; simp [q1,q1',q2,q3,q4,q4',hm,hms,n1,n2,cq,c3,hd,cb,h1]) ?_ | refine ZA ?_ ?_)
         all_goals (first | refine Yd ?_ | refine Ye ?_)
         all_goals (first | rfl | (simp; done) | (simp_all; done) | (simp_all; omega))
       · repeat' (first | intro (hb : _ = _) | refine ZV ?_ | refine ZB tm rvk_specs21_ok ?_ | refine ZH ?_ ?_ | refine ZJ (by conv=>lhs; simp [q1,q1',q2,q3,q4,q4',hm,hms,n1,n2,cq,c3,hd,cb,h1,e0]) ?_ | refine ZA ?_ ?_)
         all_goals (first | refine Yd ?_ | refine Ye ?_)
         all_goals (first | rfl | (simp; done) | (simp_all; done) | (simp_all; omega))
end
section
attribute [local simp] instA slice3A slice3C
attribute [-simp] mkv
attribute [local simp] mkv_hd hdA_cons hdA_ob hdA_ob'
def lkIs (f t : Int) (l : Lk) : Bool := l.fr == f && l.to == t
def fndK (f t : Int) (ls : List Lk) : Lk := (ls.find? (lkIs f t)).getD ⟨f,t,false,[]⟩
theorem lkLeafs : leafs Try.prog 74 = [3,3,4,72] := lf74
theorem lkC_nrm (l : Lk) : nrmL Try.prog (leafs Try.prog 74) (lkC l) = lkC l := by
 rw [lkLeafs]
 simp only [lkC,nrmL,nrmV,uM,nrmRows_map msg_nrm]
theorem lkC_nrm0 (f t : Int) (c : Bool) : nrmL Try.prog (leafs Try.prog 74) [.int .i64 f, .int .i64 t, .bool c, .nils] = lkC ⟨f,t,c,[]⟩ := by
 rw [lkLeafs]
 simp only [lkC,nrmL,nrmV,uM,cM,List.map_nil]
theorem lkC_nrmR (l : Lk) : nrmR Try.prog [74] (.agg (lkC l)) = .agg (lkC l) := by
 simp only [nrmR,nrmV]
 rw [lkC_nrm]
noncomputable def fnkS : SpecFn := mkS (fun d : Nts × Int × Int => [d.1.v, .int .i64 d.2.1, .int .i64 d.2.2]) fun d => (.agg (lkC (fndK d.2.1 d.2.2 d.1.ls)),[])
theorem fnkS_eq (d : Nts) (f t : Int) : fnkS [d.v, .int .i64 f, .int .i64 t] [] = some (.agg (lkC (fndK f t d.ls)),[]) :=
 mkS_eq (enc:=fun d : Nts × Int × Int=>[d.1.v,AV.int .i64 d.2.1, .int .i64 d.2.2]) (res:=fun d=>(.agg (lkC (fndK d.2.1 d.2.2 d.1.ls)),[])) (fun x y h=>by
   obtain ⟨a,b,c⟩:=x
   obtain ⟨a',b',c'⟩:=y
   simp only [List.cons.injEq,AV.int.injEq,true_and,and_true] at h
   obtain ⟨h1,rfl,rfl⟩:=h
   cases Nts.v_inj h1
   rfl) (d,f,t)
theorem findK_take {p : Lk → Bool} {l : List Lk} : ∀ {k : Nat} {e : Lk},l[k]? = some e → (∀ x ∈ l.take k,p x = false) → p e = true → l.find? p = some e := by
 induction l with
 | nil=>intro k e h; simp at h
 | cons x r ih =>
   intro k e h h1 h2
   cases k with
   | zero =>
     simp only [List.getElem?_cons_zero,Option.some.injEq] at h
     subst h
     simp [List.find?_cons,h2]
   | succ k =>
     simp only [List.getElem?_cons_succ] at h
     have:=h1 x (by simp)
     rw [List.find?_cons,this]
     exact ih h (fun y hy=>h1 y (by simp [hy])) h2
theorem fnk_ok : FnC Try.prog 38 fnkS := by
 refine FnC.walkN 38 (fn:=Try.f38) [74] Try.func38 rfl (by kernel_rfl) (fun d=>?_) (fun d=>⟨_,lkC_nrmR _⟩)
 obtain ⟨⟨l,hl,he⟩,f,t⟩:=d
 change W _ (RetNf _ _ _ (.agg (lkC (fndK f t l))) []) _ _ ⟨31,[(0, .agg [.list 4 (l.map lkC)]),(1, .int .i64 f),(2, .int .i64 t)],[]⟩
 have cap : l.length ≤ 9223372036854775807:=by omega
 repeat' (first | intro (hb : _ = _) | refine ZV ?_ | refine ZB tm no_specs ?_ | refine ZH ?_ ?_ | refine ZJ (by conv=>lhs; simp [cap]) ?_ | refine ZA ?_ ?_)
 refine W.loop rfl (ι:={ q : Nat × NL ABlk // q.1 ≤ l.length ∧ (∀ x ∈ l.take q.1,lkIs f t x = false) ∧ lk q.2 112 = some { gen:=1,kind:=2,elem:=74,size:=4,inl:=false,rows:=[[.int .i64 0, .int .i64 0, .bool false, .nils]] } })
   (fun q=>⟨31,[(1, .int .i64 f),(2, .int .i64 t),(6, .ptr 112 1 0 0),(10, .list 4 (l.map lkC)),(11, .int .i64 l.length),(12, .int .i64 (q.1.1 : Nat))],q.1.2⟩) (fun q=>l.length - q.1.1)
   ⟨(0,_),by simp,by simp,by first | rfl | simp [lk_st]⟩ (AS.le_of rfl ⟨rfl,rfl,rfl,rfl,rfl,rfl,trivial⟩ (fun _=>rfl)) ?_
 rintro ⟨⟨k,h⟩,hk,hg,h1⟩
 dsimp only at hk hg h1 ⊢
 by_cases hk2 : k = l.length
 · subst hk2
   rw [List.take_length] at hg
   have hf : fndK f t l = ⟨f,t,false,[]⟩:=by
     unfold fndK
     rw [List.find?_eq_none.2 (fun x hx=>by simp [hg x hx])]
     rfl
   rw [hf]
   repeat' (first | intro (hb : _ = _) | refine ZV ?_ | refine ZB tm no_specs ?_ | refine ZH ?_ ?_ | refine ZJ (by conv=>lhs; simp [h1]) ?_ | refine ZA ?_ ?_)
   refine Ye ?_
   simp only [nrmR,nrmV]
   rw [lkC_nrm0]
 · have hlt : k < l.length:=by omega
   obtain ⟨e,hr⟩:=get_lt hlt
   have hm : (l.map lkC)[k]? = some (lkC e):=by rw [List.getElem?_map,hr]; rfl
   have q1 : (k : Int) < l.length:=by omega
   have q2 : ¬ l.length ≤ k:=by omega
   have hw : IntKind.i64.wrap ((k : Int) + 1) = ((k + 1 : Nat) : Int):=w64 (by omega) (by omega)
   have fin : lkIs f t e = true → fndK f t l = e:=fun hi=>by
     unfold fndK
     rw [findK_take hr hg hi]
     rfl
   have nxt : lkIs f t e = false → ∀ x ∈ l.take (k + 1),lkIs f t x = false:=fun hi x hx=>by
     rw [List.take_add_one,hr] at hx
     simp only [Option.toList_some,List.mem_append,List.mem_singleton] at hx
     rcases hx with hx | rfl
     · exact hg x hx
     · exact hi
   obtain ⟨a,b,c,q⟩:=e
   unfold lkIs at fin nxt
   dsimp only at fin nxt
   simp only [lkC] at hm
   cases i1 : (a == f) with
   | false =>
     have:=nxt (by rw [i1]; rfl)
     repeat' (first | intro (hb : _ = _) | refine ZV ?_ | refine ZB tm no_specs ?_ | refine ZH ?_ ?_ | refine ZJ (by conv=>lhs; simp [q1,q2,hm,i1,hw]) ?_ | refine ZA ?_ ?_)
     exact ⟨⟨(k + 1,_),hlt,this,by simp [lk_st,h1]⟩,by dsimp only; omega,AS.le_of rfl ⟨rfl,rfl,rfl,rfl,rfl,rfl,trivial⟩ (fun _=>rfl)⟩
   | true =>
     cases i2 : (b == t) with
     | false =>
       have:=nxt (by rw [i1,i2]; rfl)
       repeat' (first | intro (hb : _ = _) | refine ZV ?_ | refine ZB tm no_specs ?_ | refine ZH ?_ ?_ | refine ZJ (by conv=>lhs; simp [q1,q2,hm,i1,i2,hw]) ?_ | refine ZA ?_ ?_)
       exact ⟨⟨(k + 1,_),hlt,this,by simp [lk_st,h1]⟩,by dsimp only; omega,AS.le_of rfl ⟨rfl,rfl,rfl,rfl,rfl,rfl,trivial⟩ (fun _=>rfl)⟩
     | true =>
       rw [fin (by rw [i1,i2]; rfl)]
       repeat' (first | intro (hb : _ = _) | refine ZV ?_ | refine ZB tm no_specs ?_ | refine ZH ?_ ?_ | refine ZJ (by conv=>lhs; simp [q1,q2,hm,i1,i2,h1]) ?_ | refine ZA ?_ ?_)
       refine Ye ?_
       exact lkC_nrmR ⟨a,b,c,q⟩
def othK (x : Lk) (l : List Lk) : List Lk := l.filter (fun e => e.fr != x.fr || e.to != x.to)
def putP (x : Lk) : List Lk → List Lk
 | []=>[x]
 | e :: r=>if befB e x.fr x.to then e :: putP x r else x :: othK x (e :: r)
def restK (x : Lk) (done : Bool) (l : List Lk) : List Lk := if done then othK x l else putP x l
def putK (x : Lk) (l : List Lk) : List Lk := restK x (!x.cut && x.q.isEmpty) l
theorem putP_len (x : Lk) : ∀ l : List Lk,(putP x l).length ≤ l.length + 1
 | []=>Nat.le_refl _
 | e :: r=>by
   have h1:=putP_len x r
   have h2 : (othK x (e :: r)).length ≤ (e :: r).length:=List.length_filter_le _ _
   rw [putP]
   split
   · simp only [List.length_cons]; omega
   · simp only [List.length_cons] at h2 ⊢; omega
theorem bef_ne {e x : Lk} (h : befB e x.fr x.to = true) : (e.fr != x.fr || e.to != x.to) = true := by
 unfold befB at h
 simp only [Bool.or_eq_true,decide_eq_true_eq,Bool.and_eq_true,beq_iff_eq] at h
 simp only [Bool.or_eq_true,bne_iff_ne,ne_eq]
 omega
structure Pl where
 d : Nts
 x : Lk
 h : okK x
noncomputable def ptlS : SpecFn := mkS (fun p : Pl => [p.d.v, .agg (lkC p.x)]) fun p => (.agg [.list 4 ((putK p.x p.d.ls).map lkC)],[])
theorem ptlS_eq (p : Pl) : ptlS [p.d.v, .agg (lkC p.x)] [] = some (.agg [.list 4 ((putK p.x p.d.ls).map lkC)],[]) :=
 mkS_eq (enc:=fun p : Pl=>[p.d.v,AV.agg (lkC p.x)]) (res:=fun p=>(.agg [.list 4 ((putK p.x p.d.ls).map lkC)],[])) (fun x y h=>by
   obtain ⟨a,b,_⟩:=x
   obtain ⟨a',b',_⟩:=y
   simp only [List.cons.injEq,AV.agg.injEq,and_true] at h
   cases Nts.v_inj h.1
   cases lkC_inj h.2
   rfl) p
theorem uK : Try.prog.underlying 24 = some (.slice 74) := by kernel_rfl
theorem cK : Try.prog.cellsOf 74 = 4 := by kernel_rfl
theorem nwLeafs : leafs Try.prog 26 = [24] := lf26
theorem nts_nrmR (l : List Lk) : nrmR Try.prog [26] (.agg [.list 4 (l.map lkC)]) = .agg [.list 4 (l.map lkC)] := by
 simp only [nrmR,nrmV,nwLeafs,nrmL,uK,nrmRows_map lkC_nrm]
noncomputable def ptl_specs : NL Spec := [(69,⟨1,befS⟩)]
theorem ptl_specs_ok : ∀ p ∈ ptl_specs,FnC Try.prog p.1 p.2.fn := by
 simp only [ptl_specs,List.mem_cons,List.not_mem_nil,or_false]
 rintro p rfl
 exact bef_ok
attribute [local simp] ptl_specs
structure PlI (x : Lk) (l : List Lk) where
 k : Nat
 done : Bool
 T : List Lk
 g : Nat
 H : NL ABlk
 hk : k ≤ l.length
 hT : T.length ≤ k + done.toNat
 res : T ++ restK x done (l.drop k) = putK x l
 g3 : lk H 64 = some { gen:=1,kind:=2,elem:=74,size:=4,inl:=false,rows:=[lkC x] }
 g4 : lk H 80 = some { gen:=1,kind:=2,elem:=26,size:=1,inl:=false,rows:=[[.nils]] }
 g5 : lk H 96 = some { gen:=1,kind:=2,elem:=26,size:=1,inl:=false,rows:=[[.sl 20000 g 0 T.length]] }
 gM : lk H 20000 = some { gen:=g,kind:=2,elem:=74,size:=4,inl:=true,rows:=T.map lkC }
theorem ptl_ok : FnC Try.prog 39 ptlS := by
 refine FnC.walkN 39 (fn:=Try.f39) [26] Try.func39 rfl (by kernel_rfl) (fun d=>?_) (fun d=>⟨_,nts_nrmR _⟩)
 obtain ⟨⟨l,hl,he⟩,x,hx⟩:=d
 change W _ (RetNf _ _ _ (.agg [.list 4 ((putK x l).map lkC)]) []) _ _ ⟨70,[(0, .agg [.list 4 (l.map lkC)]),(1, .agg (lkC x))],[]⟩
 have cap : l.length ≤ 9223372036854775807:=by omega
 have capx : x.q.length ≤ 9223372036854775807:=by unfold okK at hx; omega
 have hd0 : (x.cut = true ∧ (!x.cut && x.q.isEmpty) = false) ∨ (x.cut = false ∧ ∃ b,((x.q.length : Int) == 0) = b ∧ (!x.cut && x.q.isEmpty) = b):=by
   cases h : x.cut with
   | true=>exact .inl ⟨rfl,rfl⟩
   | false =>
     right
     refine ⟨rfl,x.q.isEmpty, ?_,rfl⟩
     cases x.q with
     | nil=>rfl
     | cons a r=>simp; omega
 simp only [lkC]
 repeat' (first | intro (hb : _ = _) | refine ZV ?_ | refine ZB (id:=0) tm ptl_specs_ok ?_ | refine ZB (id:=1) tm ptl_specs_ok ?_ | refine ZH ?_ ?_ | refine ZJ (by conv=>lhs; simp [cap]) ?_ | refine ZA ?_ ?_)
 refine W.phR 96 0 0 20000 74 4 true rfl rfl rfl rfl rfl rfl (by decide) ?_
 rcases hd0 with ⟨hc,hD⟩ | ⟨hc,b,hb0,hD⟩
 repeat' (first | intro (hb : _ = _) | refine ZV ?_ | refine ZB (id:=2) tm ptl_specs_ok ?_ | refine ZB (id:=3) tm ptl_specs_ok ?_ | refine ZH ?_ ?_ | refine ZJ (by conv=>lhs; simp [cap,capx,hc]) ?_ | refine ZA ?_ ?_)
 refine W.loop rfl (ι:=PlI x l)
   (fun q=>⟨70,[(3, .ptr 64 1 0 0),(4, .ptr 80 1 0 0),(5, .ptr 96 1 0 0),(6, .bool q.done),(19, .list 4 (l.map lkC)),(20, .int .i64 l.length),(21, .int .i64 (q.k : Nat))],q.H⟩) (fun q=>l.length - q.k)
   ⟨0,false,[],0,_,by simp,by simp,by rw [putK,hD]; simp,by simp [lk_st,lk,lkC,hc],by simp [lk_st,lk],by simp [lk_st,lk],by simp [lk_st,lk]⟩ (AS.le_of rfl ⟨rfl,rfl,rfl,rfl,rfl,rfl,rfl,trivial⟩ (fun _=>rfl)) ?_
 rotate_left 1
 repeat' (first | intro (hb : _ = _) | refine ZV ?_ | refine ZB (id:=2) tm ptl_specs_ok ?_ | refine ZB (id:=3) tm ptl_specs_ok ?_ | refine ZH ?_ ?_ | refine ZJ (by conv=>lhs; simp [cap,capx,hc]) ?_ | refine ZA ?_ ?_)
 refine W.loop rfl (ι:=PlI x l)
   (fun q=>⟨70,[(3, .ptr 64 1 0 0),(4, .ptr 80 1 0 0),(5, .ptr 96 1 0 0),(6, .bool q.done),(19, .list 4 (l.map lkC)),(20, .int .i64 l.length),(21, .int .i64 (q.k : Nat))],q.H⟩) (fun q=>l.length - q.k)
   ⟨0,((x.q.length : Int) == 0),[],0,_,by simp,by simp,by rw [putK,hD,hb0]; simp,by simp [lk_st,lk,lkC,hc],by simp [lk_st,lk],by simp [lk_st,lk],by simp [lk_st,lk]⟩ (AS.le_of rfl ⟨rfl,rfl,rfl,rfl,rfl,rfl,rfl,trivial⟩ (fun _=>rfl)) ?_
 all_goals (
   clear hc hD
   rintro ⟨k,dn,T,g,H,hk,hT,res,g3,g4,g5,gM⟩
   dsimp only at hk hT res g3 g4 g5 gM ⊢
   simp only [lkC] at g3
   have hdn : dn.toNat ≤ 1:=Bool.toNat_le dn
   have y1 : T.length ≤ maxLen:=by simp only [maxLen]; omega
   have y2 : (T.length + 1) * 48 ≤ 140737488355328:=by omega
   have y4 : T.length + 1 ≤ maxLen:=by simp only [maxLen]; omega
   have fT : firstRows T.length (T.map lkC) = T.map lkC:=first_all (by simp)
   by_cases hk2 : k = l.length
   · subst hk2
     rw [List.drop_length] at res
     cases dn with
     | true =>
       have : putK x l = T:=by rw [← res]; simp [restK,othK]
       rw [this]
       have tT : List.take T.length (T.map lkC) = T.map lkC:=List.take_of_length_le (by simp)
       clear y1 y2 y4 fT hT res this
       repeat' (first | intro (hb : _ = _) | refine ZV ?_ | refine ZB tm ptl_specs_ok ?_ | refine ZH ?_ ?_ | refine ZJ (by conv=>lhs; simp [g3,g4,g5,gM]) ?_ | refine ZA ?_ ?_)
       refine RetNf.dataE rfl (by conv=>lhs; simp) (by conv=>lhs; simp [frqT,frqV,frqL,frq1,frz1,AP.run,gM,tT]) (by first | rfl | simp [inlT,inlV]) ?_
       exact nts_nrmR T
     | false =>
       obtain ⟨T2,hT2⟩ : ∃ T2,T ++ [x] = T2:=⟨_,rfl⟩
       have : putK x l = T2:=by rw [← res, ← hT2]; simp [restK,putP]
       rw [this]
       have hl2 : T2.length = T.length + 1:=by rw [← hT2]; simp
       have hrow : T.map lkC ++ [lkC x] = T2.map lkC:=by rw [← hT2]; simp
       simp only [lkC] at hrow
       have tT : List.take (T.length + 1) (T2.map lkC) = T2.map lkC:=List.take_of_length_le (by simp; omega)
       clear hdn res this
       repeat' (first | intro (hb : _ = _) | refine ZV ?_ | refine ZB tm ptl_specs_ok ?_ | refine ZH ?_ ?_ | refine ZJ (by conv=>lhs; simp [g3,g4,g5,gM,y1,y2,y4,fT,hrow,m1]) ?_ | refine ZA ?_ ?_)
       refine RetNf.dataE rfl (by conv=>lhs; simp) (by conv=>lhs; simp [frqT,frqV,frqL,frq1,frz1,AP.run,gM,tT,hl2]) (by first | rfl | simp [inlT,inlV]) ?_
       exact nts_nrmR T2
   · have hlt : k < l.length:=by omega
     obtain ⟨e,hr⟩:=get_lt hlt
     have hm : (l.map lkC)[k]? = some (lkC e):=by rw [List.getElem?_map,hr]; rfl
     have hd : l.drop k = e :: l.drop (k + 1):=by
       obtain ⟨h1,h2⟩:=List.getElem?_eq_some_iff.1 hr
       rw [List.drop_eq_getElem_cons h1,h2]
     rw [hd] at res
     have cb:=befS_eq e (he e (List.mem_of_getElem? hr)) x.fr x.to
     have q1 : (k : Int) < l.length:=by omega
     have q2 : ¬ l.length ≤ k:=by omega
     have hw : IntKind.i64.wrap ((k : Int) + 1) = ((k + 1 : Nat) : Int):=w64 (by omega) (by omega)
     simp only [lkC] at hm cb
     obtain ⟨tl,htl⟩ : ∃ tl,l.drop (k + 1) = tl:=⟨_,rfl⟩
     rw [htl] at res
     clear hd
     obtain ⟨B,hB⟩ : ∃ B,(e.fr != x.fr || e.to != x.to) = B:=⟨_,rfl⟩
     have oh : othK x (e :: tl) = (if B then [e] else []) ++ othK x tl:=by
       rw [← hB]
       unfold othK
       rw [List.filter_cons]
       split <;> simp
     repeat' (first | intro (hb : _ = _) | refine ZV ?_ | refine ZB (id:=4) tm ptl_specs_ok ?_ | refine ZB (id:=5) tm ptl_specs_ok ?_ | refine ZH ?_ ?_ | refine ZJ (by conv=>lhs; simp [q1,q2,hm]) ?_ | refine ZA ?_ ?_)
     refine W.cutT (fun σ' => ∃ (d2 : Bool) (T2 : List Lk) (g2 G : Nat) (H2 : NL ABlk),T2.length ≤ k + d2.toNat ∧ T2 ++ ((if B then [e] else []) ++ restK x d2 tl) = putK x l ∧ lk H2 64 = some { gen:=1,kind:=2,elem:=74,size:=4,inl:=false,rows:=[lkC x] } ∧ lk H2 80 = some { gen:=1,kind:=2,elem:=26,size:=1,inl:=false,rows:=[[.nils]] } ∧ lk H2 96 = some { gen:=1,kind:=2,elem:=26,size:=1,inl:=false,rows:=[[.sl 20000 g2 0 T2.length]] } ∧ lk H2 20000 = some { gen:=g2,kind:=2,elem:=74,size:=4,inl:=true,rows:=T2.map lkC } ∧ lk H2 144 = some { gen:=G,kind:=2,elem:=74,size:=4,inl:=false,rows:=[lkC e] } ∧ AS.le ⟨70,[(3, .ptr 64 1 0 0),(4, .ptr 80 1 0 0),(5, .ptr 96 1 0 0),(6, .bool d2),(8, .ptr 144 G 0 0),(19, .list 4 (l.map lkC)),(20, .int .i64 l.length),(21, .int .i64 (k : Nat))],H2⟩ σ') ?_ ?_
     · cases dn with
       | true =>
         have r1 : T ++ ((if B then [e] else []) ++ restK x true tl) = putK x l:=by
           rw [← res]
           simp only [restK,if_true]
           rw [oh]
         clear y1 y2 y4 fT
         repeat' (first | intro (hb : _ = _) | refine ZV ?_ | refine ZB tm ptl_specs_ok ?_ | refine ZH ?_ ?_ | refine ZJ (by conv=>lhs; simp [g3,g4,g5,gM]) ?_ | refine ZA ?_ ?_)
         exact ⟨true,T,g,_,_,hT,r1,by simp [lk_st,g3,lkC],by simp [lk_st,g4],by simp [lk_st,g5],by simp [lk_st,gM],by simp [lk_st,lkC],AS.le_of rfl ⟨rfl,rfl,rfl,rfl,rfl,rfl,rfl,rfl,trivial⟩ (fun _=>rfl)⟩
       | false =>
         simp only [restK,Bool.false_eq_true,if_false] at res
         rw [putP] at res
         cases n2 : befB e x.fr x.to with
         | false =>
           rw [n2] at cb
           rw [if_neg (by simp [n2])] at res
           have hrow : T.map lkC ++ [lkC x] = (T ++ [x]).map lkC:=by simp
           simp only [lkC] at hrow
           have hl2 : (T ++ [x]).length = T.length + 1:=by simp
           have r1 : (T ++ [x]) ++ ((if B then [e] else []) ++ restK x true tl) = putK x l:=by
             rw [← res,oh]
             simp only [restK,if_true,List.append_assoc,List.cons_append,List.nil_append]
           generalize T ++ [x] = T2 at *
           have r2 : T2.length ≤ k + (true : Bool).toNat:=by simp only [Bool.toNat_true,Bool.toNat_false] at hT ⊢; omega
           clear hdn res
           repeat' (first | intro (hb : _ = _) | refine ZV ?_ | refine ZB tm ptl_specs_ok ?_ | refine ZH ?_ ?_ | refine ZJ (by conv=>lhs; simp [cb,g3,g4,g5,gM,y1,y2,y4,fT,hrow,m1]) ?_ | refine ZA ?_ ?_)
           exact ⟨true,T2,g + 1,_,_,r2,r1,by simp [lk_st,g3,lkC],by simp [lk_st,g4],by simp [lk_st,hl2],by simp [lk_st],by simp [lk_st,lkC],AS.le_of rfl ⟨rfl,rfl,rfl,rfl,rfl,rfl,rfl,rfl,trivial⟩ (fun _=>rfl)⟩
         | true =>
           rw [n2] at cb
           rw [if_pos n2] at res
           have hBt : B = true:=by rw [← hB]; exact bef_ne n2
           have r1 : T ++ ((if B then [e] else []) ++ restK x false tl) = putK x l:=by
             rw [← res,hBt]
             simp [restK]
           clear hdn res
           repeat' (first | intro (hb : _ = _) | refine ZV ?_ | refine ZB tm ptl_specs_ok ?_ | refine ZH ?_ ?_ | refine ZJ (by conv=>lhs; simp [cb,g3,g4,g5,gM]) ?_ | refine ZA ?_ ?_)
           exact ⟨false,T,g,_,_,hT,r1,by simp [lk_st,g3,lkC],by simp [lk_st,g4],by simp [lk_st,g5],by simp [lk_st,gM],by simp [lk_st,lkC],AS.le_of rfl ⟨rfl,rfl,rfl,rfl,rfl,rfl,rfl,rfl,trivial⟩ (fun _=>rfl)⟩
     · clear y1 y2 y4 fT g3 g4 g5 gM hT res hdn oh cb
       rintro σ' ⟨d2,T,g,G,H,hT,res,g3,g4,g5,gM,g8,hle⟩
       refine W.weak hle ?_
       clear hle
       have hdn : d2.toNat ≤ 1:=Bool.toNat_le d2
       have y1 : T.length ≤ maxLen:=by simp only [maxLen]; omega
       have y2 : (T.length + 1) * 48 ≤ 140737488355328:=by omega
       have y4 : T.length + 1 ≤ maxLen:=by simp only [maxLen]; omega
       have fT : firstRows T.length (T.map lkC) = T.map lkC:=first_all (by simp)
       subst htl
       simp only [lkC] at g3 g8
       cases B with
       | false =>
         rw [if_neg (by simp)] at res
         have n1 : (e.fr != x.fr) = false:=by simp only [Bool.or_eq_false_iff] at hB; exact hB.1
         have n2 : (e.to != x.to) = false:=by simp only [Bool.or_eq_false_iff] at hB; exact hB.2
         clear y1 y2 y4 fT
         repeat' (first | intro (hb : _ = _) | refine ZV ?_ | refine ZB tm ptl_specs_ok ?_ | refine ZH ?_ ?_ | refine ZJ (by conv=>lhs; simp [n1,n2,hw,g3,g4,g5,gM,g8]) ?_ | refine ZA ?_ ?_)
         exact ⟨⟨k + 1,d2,T,g,_,hlt,by omega,res,by simp [lk_st,g3,lkC],by simp [lk_st,g4],by simp [lk_st,g5],by simp [lk_st,gM]⟩,by dsimp only; omega,AS.le_of rfl ⟨rfl,rfl,rfl,rfl,rfl,rfl,rfl,trivial⟩ (fun _=>rfl)⟩
       | true =>
         rw [if_pos rfl] at res
         have hrow : T.map lkC ++ [lkC e] = (T ++ [e]).map lkC:=by simp
         simp only [lkC] at hrow
         have hl2 : (T ++ [e]).length = T.length + 1:=by simp
         have r1 : (T ++ [e]) ++ restK x d2 (l.drop (k + 1)) = putK x l:=by rw [← res]; simp
         generalize T ++ [e] = T2 at *
         have r2 : T2.length ≤ k + 1 + d2.toNat:=by omega
         clear hdn res hT
         by_cases n1 : (e.fr != x.fr) = true
         · clear hB
           repeat' (first | intro (hb : _ = _) | refine ZV ?_ | refine ZB tm ptl_specs_ok ?_ | refine ZH ?_ ?_ | refine ZJ (by conv=>lhs; simp [n1,hw,g3,g4,g5,gM,g8,y1,y2,y4,fT,hrow,m1]) ?_ | refine ZA ?_ ?_)
           exact ⟨⟨k + 1,d2,T2,g + 1,_,hlt,r2,r1,by simp [lk_st,g3,lkC],by simp [lk_st,g4],by simp [lk_st,hl2],by simp [lk_st]⟩,by dsimp only; omega,AS.le_of rfl ⟨rfl,rfl,rfl,rfl,rfl,rfl,rfl,trivial⟩ (fun _=>rfl)⟩
         · have n1 : (e.fr != x.fr) = false:=by simpa using n1
           have n2 : (e.to != x.to) = true:=by rw [n1] at hB; simpa using hB
           clear hB
           repeat' (first | intro (hb : _ = _) | refine ZV ?_ | refine ZB tm ptl_specs_ok ?_ | refine ZH ?_ ?_ | refine ZJ (by conv=>lhs; simp [n1,n2,hw,g3,g4,g5,gM,g8,y1,y2,y4,fT,hrow,m1]) ?_ | refine ZA ?_ ?_)
           exact ⟨⟨k + 1,d2,T2,g + 1,_,hlt,r2,r1,by simp [lk_st,g3,lkC],by simp [lk_st,g4],by simp [lk_st,hl2],by simp [lk_st]⟩,by dsimp only; omega,AS.le_of rfl ⟨rfl,rfl,rfl,rfl,rfl,rfl,rfl,trivial⟩ (fun _=>rfl)⟩)
end
section
attribute [local simp] instA slice3A slice3C
noncomputable def nannR (x : Int) : AV := .bool false
noncomputable def nannS : SpecFn := mkS (fun p : Int => [.int .i64 p]) fun p => (nannR p,[])
theorem nann_eq (x : Int) : nannS [.int .i64 x] [] = some (nannR (x),[]) :=
 mkS_eq (enc:=fun p : Int=>[.int .i64 p]) (res:=fun p=>(nannR p,[])) (fun x y h=>by
   obtain ⟨h0,h⟩:=List.cons.inj h
   have e0:=AVi h0
   subst e0
   rfl) (x)
theorem nann_ok : FnC Try.prog 89 nannS := by
 refine FnC.walk 89 (fn:=Try.f89) Try.func89 rfl (by kernel_rfl) fun p=>?_
 revert p; intro x
 change W _ (Ret _ _ (nannR (x)) []) _ _ ⟨6,[(0, .int .i64 x)],[]⟩
 repeat' (first | intro (hb : _ = _) | refine ZV ?_ | refine ZB tm no_specs ?_ | refine ZH ?_ ?_ | refine ZJ (by conv=>lhs; simp) ?_ | refine ZA ?_ ?_)
 all_goals (first | refine Yd ?_ | refine Ye ?_)
 all_goals (first | rfl | (simp [nannR]; done) | (simp_all [nannR]; done) | (simp_all [nannR]; omega))
noncomputable def cmpnR (x : Int) (y : Int) : AV := .int .i64 (cmpI x y)
noncomputable def cmpnS : SpecFn := mkS (fun p : Int × Int => [.int .i64 p.1, .int .i64 p.2]) fun p => (cmpnR p.1 p.2,[])
theorem cmpn_eq (x : Int) (y : Int) : cmpnS [.int .i64 x, .int .i64 y] [] = some (cmpnR (x) (y),[]) :=
 mkS_eq (enc:=fun p : Int × Int=>[.int .i64 p.1, .int .i64 p.2]) (res:=fun p=>(cmpnR p.1 p.2,[])) (fun x y h=>by
   obtain ⟨a0,a1⟩:=x
   obtain ⟨b0,b1⟩:=y
   obtain ⟨h0,h⟩:=List.cons.inj h
   obtain ⟨h1,h⟩:=List.cons.inj h
   have e0:=AVi h0
   subst e0
   have e1:=AVi h1
   subst e1
   rfl) (x,y)
noncomputable def cmpn_ok_specs : NL Spec := [(89,⟨1,nannS⟩)]
theorem cmpn_ok_specs_ok : ∀ p ∈ cmpn_ok_specs,FnC Try.prog p.1 p.2.fn := by
 simp only [cmpn_ok_specs,List.mem_cons,List.not_mem_nil,or_false]
 rintro p rfl
 · exact nann_ok
attribute [local simp] cmpn_ok_specs nann_eq
theorem cmpn_ok : FnC Try.prog 68 cmpnS := by
 refine FnC.walk 68 (fn:=Try.f68) Try.func68 rfl (by kernel_rfl) fun p=>?_
 obtain ⟨x,y⟩:=p
 change W _ (Ret _ _ (cmpnR (x) (y)) []) _ _ ⟨20,[(0, .int .i64 x),(1, .int .i64 y)],[]⟩
 repeat' (first | intro (hb : _ = _) | refine ZV ?_ | refine ZB tm cmpn_ok_specs_ok ?_ | refine ZH ?_ ?_ | refine ZJ (by conv=>lhs; simp [nannR]) ?_ | refine ZA ?_ ?_)
 all_goals (first | refine Yd ?_ | refine Ye ?_)
 all_goals (first | rfl | (simp [cmpnR,cmpI]; done) | (simp_all [cmpnR,cmpI]; done) | (simp_all [cmpnR,cmpI]; omega))
attribute [-simp] mkv
attribute [local simp] mkv_hd hdA_cons hdA_ob hdA_ob'
def orI (a b : Int) : Int := if a = 0 then b else a
noncomputable def orS : SpecFn := mkS (fun d : Int × Int => [.list 1 [[.int .i64 d.1],[.int .i64 d.2]]]) fun d => (.int .i64 (orI d.1 d.2),[])
theorem orS_eq (a b : Int) : orS [.list 1 [[.int .i64 a],[.int .i64 b]]] [] = some (.int .i64 (orI a b),[]) :=
 mkS_eq (enc:=fun d : Int × Int=>[AV.list 1 [[.int .i64 d.1],[.int .i64 d.2]]]) (fun x y h=>by
   simp only [List.cons.injEq,AV.list.injEq,AV.int.injEq,true_and,and_true] at h
   rw [Prod.ext h.1 h.2]) (a,b)
theorem or_ok : FnC Try.prog 67 orS := by
 refine FnC.walk 67 (fn:=Try.f67) Try.func67 rfl (by kernel_rfl) fun d=>?_
 obtain ⟨a,b⟩:=d
 change W _ (Ret _ _ (.int .i64 (orI a b)) []) _ _ ⟨18,[(0, .list 1 [[.int .i64 a],[.int .i64 b]])],[]⟩
 obtain ⟨l,hl⟩ : ∃ l : List (List AV),l = [[.int .i64 a],[.int .i64 b]]:=⟨_,rfl⟩
 have g0 : l[0]? = some [.int .i64 a]:=by rw [hl]; rfl
 have g1 : l[1]? = some [.int .i64 b]:=by rw [hl]; rfl
 have gl : l.length = 2:=by rw [hl]; rfl
 rw [← hl]
 clear hl
 have cap : l.length ≤ 9223372036854775807:=by omega
 repeat' (first | intro (hb : _ = _) | refine ZV ?_ | refine ZB tm no_specs ?_ | refine ZH ?_ ?_ | refine ZJ (by conv=>lhs; simp [cap]) ?_ | refine ZA ?_ ?_)
 refine W.loop rfl (ι:={ q : Nat // q ≤ 2 ∧ (q = 1 → a = 0) ∧ (q = 2 → a = 0 ∧ b = 0) })
   (fun q=>⟨18,[(3, .int .i64 0),(6, .list 1 l),(7, .int .i64 l.length),(8, .int .i64 (q.1 : Nat))],[]⟩) (fun q=>2 - q.1)
   ⟨0,by omega,by omega,by omega⟩ (AS.le_of rfl ⟨rfl,rfl,rfl,rfl,trivial⟩ (fun _=>rfl)) ?_
 rintro ⟨k,hk,h1,h2⟩
 dsimp only at hk h1 h2 ⊢
 rcases (show k = 0 ∨ k = 1 ∨ k = 2 by omega) with rfl | rfl | rfl
 · have q2 : ¬ l.length ≤ 0:=by omega
   rw [gl]
   by_cases ha : a = 0
   · subst ha
     repeat' (first | intro (hb : _ = _) | refine ZV ?_ | refine ZB tm no_specs ?_ | refine ZH ?_ ?_ | refine ZJ (by conv=>lhs; simp [q2,g0]) ?_ | refine ZA ?_ ?_)
     exact ⟨⟨1,by omega,by omega,by omega⟩,by dsimp only; omega,AS.le_of rfl ⟨rfl,by simp [gl],rfl,rfl,trivial⟩ (fun _=>rfl)⟩
   · have ha' : (a != 0) = true:=by simpa using ha
     repeat' (first | intro (hb : _ = _) | refine ZV ?_ | refine ZB tm no_specs ?_ | refine ZH ?_ ?_ | refine ZJ (by conv=>lhs; simp [q2,g0,ha']) ?_ | refine ZA ?_ ?_)
     all_goals (first | refine Yd ?_ | refine Ye ?_)
     all_goals (first | rfl | (simp [orI,ha]; done) | (simp_all [orI,ha]; done) | (simp_all [orI,ha]; omega))
 · have ha:=h1 rfl
   subst ha
   rw [gl]
   have q2 : ¬ l.length ≤ 1:=by omega
   by_cases hb : b = 0
   · subst hb
     repeat' (first | intro (hb : _ = _) | refine ZV ?_ | refine ZB tm no_specs ?_ | refine ZH ?_ ?_ | refine ZJ (by conv=>lhs; simp [q2,g1]) ?_ | refine ZA ?_ ?_)
     exact ⟨⟨2,by omega,by omega,fun _=>⟨rfl,rfl⟩⟩,by dsimp only; omega,AS.le_of rfl ⟨rfl,by simp [gl],rfl,rfl,trivial⟩ (fun _=>rfl)⟩
   · have hb' : (b != 0) = true:=by simpa using hb
     repeat' (first | intro (hb : _ = _) | refine ZV ?_ | refine ZB tm no_specs ?_ | refine ZH ?_ ?_ | refine ZJ (by conv=>lhs; simp [q2,g1,hb']) ?_ | refine ZA ?_ ?_)
     all_goals (first | refine Yd ?_ | refine Ye ?_)
     all_goals (first | rfl | (simp [orI]; done) | (simp_all [orI]; done) | (simp_all [orI]; omega))
 · obtain ⟨ha,hb⟩:=h2 rfl
   subst ha hb
   rw [gl]
   repeat' (first | intro (hb : _ = _) | refine ZV ?_ | refine ZB tm no_specs ?_ | refine ZH ?_ ?_ | refine ZJ (by conv=>lhs; simp) ?_ | refine ZA ?_ ?_)
   all_goals (first | refine Yd ?_ | refine Ye ?_)
   all_goals (first | rfl | (simp [orI]; done) | (simp_all [orI]; done) | (simp_all [orI]; omega))
def cmL (l : Lk) (f t : Int) : Int := orI (cmpI l.fr f) (cmpI l.to t)
theorem cmL_lt (l : Lk) (f t : Int) : (cmL l f t < 0) ↔ befB l f t = true := by
 unfold cmL orI befB cmpI
 simp only [Bool.or_eq_true,Bool.and_eq_true,decide_eq_true_eq,beq_iff_eq]
 split <;> split <;> (try split) <;> (try split) <;> omega
theorem cmL_eq (l : Lk) (f t : Int) : (cmL l f t == 0) = lkIs f t l := by
 have : cmL l f t = 0 ↔ lkIs f t l = true:=by
   unfold cmL orI lkIs cmpI
   simp only [Bool.and_eq_true,beq_iff_eq]
   split <;> split <;> (try split) <;> (try split) <;> omega
 rw [Bool.eq_iff_iff]
 simpa using this
noncomputable def cmlS : SpecFn := mkS (fun d : {l : Lk // okK l} × Int × Int => [.agg (lkC d.1.1), .agg [.int .i64 d.2.1, .int .i64 d.2.2]]) fun d => (.int .i64 (cmL d.1.1 d.2.1 d.2.2),[])
theorem cmlS_eq (l : Lk) (h : okK l) (f t : Int) : cmlS [.agg (lkC l), .agg [.int .i64 f, .int .i64 t]] [] = some (.int .i64 (cmL l f t),[]) :=
 mkS_eq (enc:=fun d : {l : Lk // okK l} × Int × Int=>[AV.agg (lkC d.1.1), .agg [.int .i64 d.2.1, .int .i64 d.2.2]]) (res:=fun d=>(.int .i64 (cmL d.1.1 d.2.1 d.2.2),[])) (fun x y h=>by
   obtain ⟨a,b,c⟩:=x
   obtain ⟨a',b',c'⟩:=y
   simp only [List.cons.injEq,AV.agg.injEq,AV.int.injEq,true_and,and_true] at h
   obtain ⟨h1,rfl,rfl⟩:=h
   rw [Subtype.ext (lkC_inj h1)]) (⟨l,h⟩,f,t)
noncomputable def cml_specs : NL Spec := [(68,⟨1,cmpnS⟩),(67,⟨1,orS⟩)]
theorem cml_specs_ok : ∀ p ∈ cml_specs,FnC Try.prog p.1 p.2.fn := by
 simp only [cml_specs,List.mem_cons,List.not_mem_nil,or_false]
 rintro p (rfl | rfl)
 · exact cmpn_ok
 · exact or_ok
attribute [local simp] cml_specs
theorem cml_ok : FnC Try.prog 35 cmlS := by
 refine FnC.walk 35 (fn:=Try.f35) Try.func35 rfl (by kernel_rfl) fun d=>?_
 obtain ⟨⟨⟨a,b,c,q⟩,hl⟩,f,t⟩:=d
 change W _ (Ret _ _ (.int .i64 (orI (cmpI a f) (cmpI b t))) []) _ _ ⟨17,[(0, .agg [.int .i64 a, .int .i64 b, .bool c, .list 45 (q.map Msg.v)]),(1, .agg [.int .i64 f, .int .i64 t])],[]⟩
 have c1:=cmpn_eq a f
 have c2:=cmpn_eq b t
 have c3:=orS_eq (cmpI a f) (cmpI b t)
 simp only [cmpnR] at c1 c2
 have m2' : (2 : Nat) ≤ maxLen:=by decide
 repeat' (first | intro (hb : _ = _) | refine ZV ?_ | refine ZB tm cml_specs_ok ?_ | refine ZH ?_ ?_ | refine ZJ (by conv=>lhs; simp [c1,c2,c3,m2']) ?_ | refine ZA ?_ ?_)
 all_goals (first | refine Yd ?_ | refine Ye ?_)
 all_goals (first | rfl | (simp; done) | (simp_all; done) | (simp_all; omega))
def bsN (l : List Lk) (f t : Int) : Nat := bsF (fun k => match l[k]? with | some x => befB x f t | none => false) 0 l.length
def hasN (l : List Lk) (k : Nat) (f t : Int) : Bool := match l[k]? with | some x => lkIs f t x | none => false
noncomputable def bsnS : SpecFn := mkS (fun d : Nts × Int × Int => [.list 4 (d.1.ls.map lkC), .agg [.int .i64 d.2.1, .int .i64 d.2.2], .fn (.func 35) [] []]) fun d => (.tup [.int .i64 (bsN d.1.ls d.2.1 d.2.2 : Nat), .bool (hasN d.1.ls (bsN d.1.ls d.2.1 d.2.2) d.2.1 d.2.2)],[])
theorem bsnS_eq (d : Nts) (f t : Int) : bsnS [.list 4 (d.ls.map lkC), .agg [.int .i64 f, .int .i64 t], .fn (.func 35) [] []] [] = some (.tup [.int .i64 (bsN d.ls f t : Nat), .bool (hasN d.ls (bsN d.ls f t) f t)],[]) :=
 mkS_eq (enc:=fun d : Nts × Int × Int=>[AV.list 4 (d.1.ls.map lkC), .agg [.int .i64 d.2.1, .int .i64 d.2.2], .fn (.func 35) [] []]) (res:=fun d=>(.tup [.int .i64 (bsN d.1.ls d.2.1 d.2.2 : Nat), .bool (hasN d.1.ls (bsN d.1.ls d.2.1 d.2.2) d.2.1 d.2.2)],[])) (fun x y h=>by
   obtain ⟨⟨a,ha,hb⟩,b,c⟩:=x
   obtain ⟨⟨a',ha',hb'⟩,b',c'⟩:=y
   simp only [List.cons.injEq,AV.agg.injEq,AV.list.injEq,AV.int.injEq,true_and,and_true] at h
   obtain ⟨h1,rfl,rfl⟩:=h
   cases lks_inj h1
   rfl) (d,f,t)
noncomputable def bsn_specs : NL Spec := [(35,⟨0,cmlS⟩)]
theorem bsn_specs_ok : ∀ p ∈ bsn_specs,FnC Try.prog p.1 p.2.fn := by
 simp only [bsn_specs,List.mem_cons,List.not_mem_nil,or_false]
 rintro p rfl
 exact cml_ok
attribute [local simp] bsn_specs
theorem bsn_ok : FnC Try.prog 52 bsnS := by
 refine FnC.walk 52 (fn:=Try.f52) Try.func52 rfl (by kernel_rfl) fun d=>?_
 obtain ⟨⟨l,lh,lq⟩,f,t⟩:=d
 change W _ (Ret _ _ (.tup [.int .i64 (bsN l f t : Nat), .bool (hasN l (bsN l f t) f t)]) []) _ _ ⟨49,[(0, .list 4 (l.map lkC)),(1, .agg [.int .i64 f, .int .i64 t]),(2, .fn (.func 35) [] [])],[]⟩
 have cap : l.length ≤ 9223372036854775807:=by omega
 repeat' (first | intro (hb : _ = _) | refine ZV ?_ | refine ZB tm bsn_specs_ok ?_ | refine ZH ?_ ?_ | refine ZJ (by conv=>lhs; simp [cap]) ?_ | refine ZA ?_ ?_)
 obtain ⟨B,hE⟩ : ∃ B,bsN l f t = B:=⟨_,rfl⟩
 have hB:=hE
 unfold bsN at hB
 generalize hC : (fun (k : Nat)=>match l[k]? with | some (x : Lk)=>befB x f t | none=>false) = C at hB
 refine W.loop rfl (ι:={ q : Nat × Nat × NL ABlk // q.1 ≤ q.2.1 ∧ q.2.1 ≤ l.length ∧ bsF C q.1 q.2.1 = B ∧ (lk q.2.2 80 = some { gen:=1,kind:=2,elem:=45,size:=2,inl:=false,rows:=[[.int .i64 f, .int .i64 t]] }) })
   (fun q=>⟨49,[(0, .list 4 (l.map lkC)),(2, .fn (.func 35) [] []),(4, .ptr 80 1 0 0),(8, .int .i64 l.length),(9, .int .i64 (q.1.1 : Nat)),(10, .int .i64 (q.1.2.1 : Nat))],q.1.2.2⟩) (fun q=>q.1.2.1 - q.1.1)
   ⟨(0,l.length,_),by simp,by simp,hB,rfl⟩ (AS.le_of rfl ⟨rfl,rfl,rfl,rfl,rfl,rfl,trivial⟩ (fun _=>rfl)) ?_
 rintro ⟨⟨lo,hi,h⟩,h1,h2,h3,h4⟩
 dsimp only at h1 h2 h3 h4 ⊢
 by_cases hlt : lo < hi
 · rw [bsF_lt hlt] at h3
   have q1 : (lo : Int) < hi:=by omega
   obtain ⟨m,hm⟩ : ∃ m,(lo + hi) / 2 = m:=⟨_,rfl⟩
   rw [hm] at h3
   obtain ⟨x,hx⟩:=get_lt (l:=l) (i:=m) (by omega)
   have hg : (l.map lkC)[m]? = some (lkC x):=by rw [List.getElem?_map,hx]; rfl
   have q2 : ¬ l.length ≤ m:=by omega
   have hw : IntKind.i64.wrap ((m : Int) + 1) = ((m + 1 : Nat) : Int):=w64 (by omega) (by omega)
   have hcm : C m = befB x f t:=by rw [← hC]; simp only [hx]
   rw [hcm] at h3
   clear hlt
   have hh:=half (lo:=lo) (hi:=hi) (by omega)
   rw [hm] at hh
   have cc:=cmlS_eq x (lq x (List.mem_of_getElem? hx)) f t
   have cl:=cmL_lt x f t
   generalize cmL x f t = cv at cc cl
   obtain ⟨a1,a2,a3,q⟩:=x
   simp only [lkC] at hg cc
   by_cases hlt2 : cv < 0
   · rw [if_pos (cl.1 hlt2)] at h3
     repeat' (first | intro (hb : _ = _) | refine ZV ?_ | refine ZB tm bsn_specs_ok ?_ | refine ZH ?_ ?_ | refine ZJ (by conv=>lhs; simp [q1,hh,q2,hg,cc,hw,h4,hlt2]) ?_ | refine ZA ?_ ?_)
     exact ⟨⟨(m + 1,hi,_),by dsimp only; omega,h2,h3,by simp [lk_st,h4]⟩,by dsimp only; omega,AS.le_of rfl ⟨rfl,rfl,rfl,rfl,rfl,rfl,trivial⟩ (fun _=>rfl)⟩
   · rw [if_neg (fun c=>hlt2 (cl.2 c))] at h3
     repeat' (first | intro (hb : _ = _) | refine ZV ?_ | refine ZB tm bsn_specs_ok ?_ | refine ZH ?_ ?_ | refine ZJ (by conv=>lhs; simp [q1,hh,q2,hg,cc,hw,h4,hlt2]) ?_ | refine ZA ?_ ?_)
     exact ⟨⟨(lo,m,_),by dsimp only; omega,by dsimp only; omega,h3,by simp [lk_st,h4]⟩,by dsimp only; omega,AS.le_of rfl ⟨rfl,rfl,rfl,rfl,rfl,rfl,trivial⟩ (fun _=>rfl)⟩
 · rw [bsF_ge hlt] at h3
   subst h3
   have q1 : ¬ (lo : Int) < hi:=by omega
   have e1 : lo = hi:=by omega
   subst e1
   by_cases hz : lo < l.length
   · obtain ⟨x,hx⟩:=get_lt (l:=l) (i:=lo) (by omega)
     have hg : (l.map lkC)[lo]? = some (lkC x):=by rw [List.getElem?_map,hx]; rfl
     have q2 : ¬ l.length ≤ lo:=by omega
     have q3 : (lo : Int) < l.length:=by omega
     have cc:=cmlS_eq x (lq x (List.mem_of_getElem? hx)) f t
     have cl:=cmL_eq x f t
     have hh : hasN l lo f t = lkIs f t x:=by simp only [hasN,hx]
     rw [hE,hh]
     generalize cmL x f t = cv at cc cl
     generalize lkIs f t x = bv at *
     obtain ⟨a1,a2,a3,q⟩:=x
     simp only [lkC] at hg cc
     clear hlt hz hh
     repeat' (first | intro (hb : _ = _) | refine ZV ?_ | refine ZB tm bsn_specs_ok ?_ | refine ZH ?_ ?_ | refine ZJ (by conv=>lhs; simp [q1,q2,q3,hg,cc,h4,cl]) ?_ | refine ZA ?_ ?_)
     all_goals (first | refine Yd ?_ | refine Ye ?_)
     all_goals (first | rfl | (simp; done) | (simp_all; done) | (simp_all; omega))
   · have q3 : ¬ (lo : Int) < l.length:=by omega
     have q4 : l[lo]? = none:=by simp; omega
     have hh : hasN l lo f t = false:=by simp only [hasN,q4]
     rw [hE,hh]
     clear hlt hz
     repeat' (first | intro (hb : _ = _) | refine ZV ?_ | refine ZB tm bsn_specs_ok ?_ | refine ZH ?_ ?_ | refine ZJ (by conv=>lhs; simp [q1,q3,h4]) ?_ | refine ZA ?_ ?_)
     all_goals (first | refine Yd ?_ | refine Ye ?_)
     all_goals (first | rfl | (simp; done) | (simp_all; done) | (simp_all; omega))
end
end Go.Abs.Nn
