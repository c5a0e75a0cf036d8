/- Giving a token back, as the reference does. Conditions: none. -/
import Derived.Test.YtphclapfniepoaaNn1
import Derived.Test.YtphclapfniepoaaAb9
import Derived.Test.YtphclapfniepoaaAb7
namespace Go.Abs.Nn
open Go Go.Proofs Go.Abs
set_option maxRecDepth 100000
set_option maxHeartbeats 4000000
set_option linter.unusedSimpArgs false
set_option linter.unusedVariables false
section
attribute [local simp] instA
attribute [-simp] mkv
attribute [local simp] mkv_hd hdA_cons hdA_ob hdA_ob'
structure Msg where
 fr : Int
 to : Int
 kind : Int
 id : Int
 mode : Int
 obj : Ob
 a : Int
 b : Int
 c : Int
 e : Int
@[simp] def Msg.v (m : Msg) : List AV := .int .i64 m.fr :: .int .i64 m.to :: .int .i64 m.kind :: .int .u64 m.id :: .int .i64 m.mode :: (m.obj.cells ++ [.int .u64 m.a, .int .i64 m.b, .int .u64 m.c, .int .i64 m.e])
theorem msgLeafs : leafs Try.prog 50 = 3 :: 3 :: 3 :: 30 :: 3 :: (leafs Try.prog 48 ++ [30,2,30,3]) := by rw [lf50,lf48]; rfl
theorem msg_nrm (m : Msg) : nrmL Try.prog (leafs Try.prog 50) m.v = m.v := by
 rw [msgLeafs]
 simp only [Msg.v,nrmL]
 rw [nrmL_append _ _ _ _ m.obj.len'.symm,m.obj.nrmL]
 simp [nrmL,nrmV]
theorem msg_nrm0 (f t k i m : Int) : nrmL Try.prog (leafs Try.prog 50) (.int .i64 f :: .int .i64 t :: .int .i64 k :: .int .u64 i :: .int .i64 m :: (zO ++ [.int .u64 0, .int .i64 0, .int .u64 0, .int .i64 0])) = (⟨f,t,k,i,m,zOb,0,0,0,0⟩ : Msg).v := by
 rw [msgLeafs]
 simp only [Msg.v,nrmL]
 rw [nrmL_append _ _ _ _ (by rw [obLeafs]; rfl),zN_eq]
 simp [nrmL,nrmV,zOb]
end
section
attribute [local simp] slice3A slice3C instA
attribute [local simp] instA
attribute [-simp] mkv
attribute [local simp] mkv_hd hdA_cons hdA_ob hdA_ob'
end
section
attribute [local simp] instA
attribute [-simp] mkv
attribute [local simp] mkv_hd hdA_cons hdA_ob hdA_ob'
end
section
attribute [local simp] instA
attribute [-simp] mkv
attribute [local simp] mkv_hd hdA_cons hdA_ob hdA_ob'
noncomputable def ls_specs : NL Spec := [(29,⟨1,sobS⟩)]
attribute [local simp] ls_specs
end
section
def byte (b : UInt8) : List AV := [.int .u8 b.toNat]
def diceB (l : List UInt8) : ABlk := { gen := 0,kind := 2,elem := 86,size := 1,rows := [[.list 1 (l.map byte)]] }
def dn (l : List UInt8) (n : Int) : Int := match l with
 | []=>0
 | b :: _=>if n ≤ 1 then 0 else (b.toNat : Int).tmod n
def dl (l : List UInt8) (n : Int) : List UInt8 := match l with
 | []=>[]
 | b :: r=>if n ≤ 1 then b :: r else r
def encD (x : List UInt8 × Int) : List AV × List ABlk := ([.ptr 0 0 0 0, .int .i64 x.2],[diceB x.1])
noncomputable def diceS : SpecFn := mkS2 encD fun x => (.int .i64 (dn x.1 x.2),[diceB (dl x.1 x.2)])
attribute [local simp] convertA sliceArrA sliceA bndA nilCheckA
attribute [local simp] sliceArrA sliceA bndA mmA placesA
end
section
attribute [local simp] instA binOpA
def mk3 (a b c : Int) : Int := IntKind.u64.wrap ↑((IntKind.u64.wrap ↑((IntKind.u64.wrap (IntKind.u64.wrap a * 2 ^ min 56 IntKind.u64.bits) % 2 ^ IntKind.u64.bits).toNat ||| (IntKind.u64.wrap (IntKind.u64.wrap b * 2 ^ min 40 IntKind.u64.bits) % 2 ^ IntKind.u64.bits).toNat) % 2 ^ IntKind.u64.bits).toNat ||| (IntKind.u64.wrap c % 2 ^ IntKind.u64.bits).toNat)
structure Idp where
 a : Int
 b : Int
 c : Int
 h1 : 0 ≤ a
 h2 : a ≤ 127
 h3 : 0 ≤ b
 h4 : b ≤ 65535
 h5 : 1 ≤ c
 h6 : c ≤ 1099511627775
noncomputable def mk3S : SpecFn := mkS (fun d : Idp => [.int .i64 d.a, .int .i64 d.b, .int .i64 d.c]) fun d => (.tup [.int .u64 (mk3 d.a d.b d.c), .int .i64 0],[])
def d1 (l : List UInt8) : List UInt8 := dl l 3
def d2 (l : List UInt8) : List UInt8 := dl (d1 l) 2
def d3 (l : List UInt8) : List UInt8 := dl (d2 l) 9
noncomputable def id_specs : NL Spec := [(17,⟨3,diceS⟩),(40,⟨1,mk3S⟩)]
attribute [local simp] id_specs
end
section
attribute [local simp] instA
attribute [-simp] mkv
attribute [local simp] mkv_hd hdA_cons hdA_ob hdA_ob'
end
section
attribute [local simp] instA
attribute [-simp] mkv
attribute [local simp] mkv_hd hdA_cons hdA_ob hdA_ob'
end
section
attribute [local simp] instA
attribute [-simp] mkv
attribute [local simp] mkv_hd hdA_cons hdA_ob hdA_ob'
end
end Go.Abs.Nn
namespace Go.Abs.Nn
open Go Go.Proofs Go.Abs
set_option linter.unusedSimpArgs false
set_option linter.unusedVariables false
section

end
end Go.Abs.Nn
namespace Go.Abs.Nn
open Go Go.Proofs Go.Abs
set_option maxRecDepth 100000
set_option maxHeartbeats 4000000
set_option linter.unusedSimpArgs false
set_option linter.unusedVariables false
section
attribute [local simp] instA
attribute [-simp] mkv
attribute [local simp] mkv_hd hdA_cons hdA_ob hdA_ob'
noncomputable def pt_specs : NL Spec := [(25,⟨1,cobS⟩)]
attribute [local simp] pt_specs
end
section
attribute [local simp] instA
end
section
attribute [local simp] instA
def iC (m : Int) : List AV := [.int .i64 m]
end
section
theorem AVi {k : IntKind} {a b : Int} (h : AV.int k a = AV.int k b) : a = b := by cases h; rfl
theorem map_inj' {α β : Type} {f : α → β} (hf : ∀ a b,f a = f b → a = b) : ∀ {s t : List α},s.map f = t.map f → s = t
 | [],[],_=>rfl
 | [],_ :: _,h=>by simp at h
 | _ :: _,[],h=>by simp at h
 | x :: r,y :: q,h=>by
   simp only [List.map_cons,List.cons.injEq] at h
   rw [hf _ _ h.1,map_inj' hf h.2]
end
section
attribute [local simp] slice3A slice3C instA
end
section
attribute [local simp] instA
noncomputable def nanR (x : Int) : AV := .bool false
noncomputable def nanS : SpecFn := mkS (fun p : Int => [.int .i64 p]) fun p => (nanR p,[])
theorem nan_eq (x : Int) : nanS [.int .i64 x] [] = some (nanR (x),[]) :=
 mkS_eq (enc:=fun p : Int=>[.int .i64 p]) (res:=fun p=>(nanR p,[])) (fun x y h=>by
   obtain ⟨h0,h⟩:=List.cons.inj h
   have e0:=AVi h0
   subst e0
   rfl) (x)
def cmpI (a b : Int) : Int := if a < b then -1 else if b < a then 1 else 0
@[simp] theorem cmpI_eq0 (a b : Int) : (cmpI a b == 0) = decide (a = b) := by
 unfold cmpI
 split
 · rw [decide_eq_false (by omega)]; rfl
 · split
   · rw [decide_eq_false (by omega)]; rfl
   · rw [decide_eq_true (by omega)]; rfl
@[simp] theorem cmpI_lt0 (a b : Int) : (cmpI a b < 0) ↔ a < b := by
 unfold cmpI
 split
 · simp [*]
 · split <;> simp <;> omega
noncomputable def cmp_ok_specs : NL Spec := [(89,⟨1,nanS⟩)]
attribute [local simp] cmp_ok_specs nan_eq
attribute [-simp] mkv
attribute [local simp] mkv_hd hdA_cons hdA_ob hdA_ob'
theorem half {lo hi : Nat} (h : lo + hi ≤ 9223372036854775807) : IntKind.i64.wrap ((IntKind.u64.wrap (IntKind.i64.wrap ((lo : Int) + (hi : Int)))).fdiv (2 ^ min 1 IntKind.u64.bits)) = (((lo + hi) / 2 : Nat) : Int) := by
 have h1 : IntKind.i64.wrap ((lo : Int) + (hi : Int)) = (lo : Int) + (hi : Int):=w64 (by omega) (by omega)
 have h2 : IntKind.u64.wrap ((lo : Int) + (hi : Int)) = (lo : Int) + (hi : Int):=by
   simp only [IntKind.wrap,IntKind.bits,IntKind.signed]
   simp
   omega
 have h3 : ((lo : Int) + (hi : Int)).fdiv (2 ^ min 1 IntKind.u64.bits) = (((lo + hi) / 2 : Nat) : Int):=by
   rw [Int.fdiv_eq_ediv_of_nonneg _ (by decide)]
   show ((lo : Int) + (hi : Int)) / 2 = _
   omega
 rw [h1,h2,h3]
 exact w64 (by omega) (by omega)
def bsF (c : Nat → Bool) (lo hi : Nat) : Nat :=
 if h : lo < hi then (if c ((lo + hi) / 2) then bsF c ((lo + hi) / 2 + 1) hi else bsF c lo ((lo + hi) / 2)) else lo
termination_by hi - lo
decreasing_by all_goals omega
theorem bsF_lt {c : Nat → Bool} {lo hi : Nat} (h : lo < hi) : bsF c lo hi = if c ((lo + hi) / 2) then bsF c ((lo + hi) / 2 + 1) hi else bsF c lo ((lo + hi) / 2) := by
 rw [bsF,dif_pos h]
theorem bsF_ge {c : Nat → Bool} {lo hi : Nat} (h : ¬ lo < hi) : bsF c lo hi = lo := by
 rw [bsF,dif_neg h]
end
end Go.Abs.Nn
namespace Go.Abs.Dir
set_option linter.unusedSimpArgs false
set_option linter.unusedVariables false
section
structure Ent (O : Type) where
 id : Int
 owner : Int
 readers : List Int
 obj : O
 waiting : List Int
 queue : List (Int × Int)
inductive Mg (O : Type) where
 | rev (to : Int)
 | grant (to mode : Int) (obj : O)
def oth (l : List Int) (n : Int) : List Int := l.filter (fun x => x != n)
variable {O : Type}
end
end Go.Abs.Dir
namespace Go.Abs.Nn
open Go Go.Proofs Go.Abs
set_option maxRecDepth 100000
set_option maxHeartbeats 4000000
set_option linter.unusedSimpArgs false
set_option linter.unusedVariables false
section
attribute [local simp] instA
end
section
attribute [local simp] instA
end
end Go.Abs.Nn
namespace Go.Abs.Dir
set_option linter.unusedSimpArgs false
set_option linter.unusedVariables false
section
variable {O : Type}
structure Hd where
 mode : Int → Int
 demand : Int → Bool
 asked : Int → Int
def N4 (n : Int) : Prop := 0 ≤ n ∧ n ≤ 3
def Asc (l : List Int) : Prop := l.Pairwise (· < ·)
structure Pre (Pz : O → Prop) (z : O) (q : List (Int × Int)) (ow : Int) (rd : List Int) (ob : O) (h : Hd) : Prop where
 m2 : ∀ n,N4 n → (h.mode n = 2 ↔ ow = n)
 m1 : ∀ n,N4 n → (h.mode n = 1 ↔ n ∈ rd)
 m0 : ∀ n,N4 n → 0 ≤ h.mode n ∧ h.mode n ≤ 2
 owr : ow = -1 ∨ N4 ow
 rdr : ∀ n ∈ rd,N4 n
 asc : Asc rd
 one : ow ≠ -1 → rd = []
 obz : ow ≠ -1 → ob = z
 obp : Pz ob
 q1 : ∀ p ∈ q,N4 p.1 ∧ h.asked p.1 = p.2 ∧ (p.2 = 1 ∨ p.2 = 2) ∧ h.mode p.1 < p.2
 q2 : q.Pairwise (fun a b=>a.1 ≠ b.1)
 q3 : ∀ n,N4 n → h.asked n ≠ 0 → ∃ p ∈ q,p.1 = n
structure Inv (Pz : O → Prop) (z : O) (e : Ent O) (h : Hd) : Prop where
 pre : Pre Pz z e.queue e.owner e.readers e.obj h
 dem : ∀ n,N4 n → (h.demand n = true ↔ n ∈ e.waiting)
 wt : (e.waiting = [] ∧ e.queue = []) ∨ (e.waiting ≠ [] ∧ ∃ p q,e.queue = p :: q ∧ ((e.owner ≠ -1 ∧ e.waiting = [e.owner]) ∨ (e.owner = -1 ∧ p.2 = 2 ∧ e.waiting = oth e.readers p.1)))
theorem N4_cases {n : Int} (h : N4 n) : n = 0 ∨ n = 1 ∨ n = 2 ∨ n = 3 := by unfold N4 at h; omega
theorem nodup_len : ∀ {l S : List Int},l.Nodup → (∀ x ∈ l,x ∈ S) → l.length ≤ S.length
 | [],_,_,_=>Nat.zero_le _
 | x :: r,S,h,hs=>by
   obtain ⟨h1,h2⟩:=List.pairwise_cons.1 h
   have hx:=hs x (by simp)
   have h3:=nodup_len (l:=r) (S:=S.erase x) h2 (fun y hy=>(List.mem_erase_of_ne (h1 y hy).symm).2 (hs y (by simp [hy])))
   rw [List.length_erase_of_mem hx] at h3
   have:=List.length_pos_of_mem hx
   simp only [List.length_cons]
   omega
theorem Inv.q4 {Pz : O → Prop} {z : O} {e : Ent O} {h : Hd} (hi : Inv Pz z e h) : e.queue.length ≤ 4 := by
 have h1 : (e.queue.map (·.1)).Nodup:=by
   rw [List.Nodup,List.pairwise_map]
   exact hi.pre.q2
 have h2 : ∀ x ∈ e.queue.map (·.1),x ∈ [(0 : Int),1,2,3]:=fun x hx=>by
   obtain ⟨p,hp,rfl⟩:=List.mem_map.1 hx
   have:=N4_cases (hi.pre.q1 p hp).1
   simpa using this
 have:=nodup_len h1 h2
 simpa using this
end
end Go.Abs.Dir
namespace Go.Abs.Nn
open Go Go.Proofs Go.Abs
set_option maxRecDepth 100000
set_option maxHeartbeats 4000000
set_option linter.unusedSimpArgs false
set_option linter.unusedVariables false
section
abbrev En := Dir.Ent Ob
def askC (p : Int × Int) : List AV := [.int .i64 p.1, .int .i64 p.2]
@[simp] def enC (e : En) : List AV := .int .u64 e.id :: .int .i64 e.owner :: .list 1 (e.readers.map iC) :: (e.obj.cells ++ [.list 1 (e.waiting.map iC), .list 2 (e.queue.map askC)])
theorem iC_inj {l m : List Int} (h : l.map iC = m.map iC) : l = m := map_inj' (fun a b h => by simpa [iC] using h) h
theorem askC_inj {l m : List (Int × Int)} (h : l.map askC = m.map askC) : l = m := map_inj' (fun a b h => by
 obtain ⟨a,b⟩:=a
 simpa [askC,Prod.ext_iff] using h) h
theorem enC_inj {s t : En} (h : enC s = enC t) : s = t := by
 obtain ⟨a,b,r,o,w,q⟩:=s
 obtain ⟨a',b',r',o',w',q'⟩:=t
 simp only [enC,List.cons.injEq,AV.int.injEq,AV.list.injEq,true_and] at h
 obtain ⟨rfl,rfl,h0,h⟩:=h
 obtain ⟨h1,h2⟩:=List.append_inj h (by simp)
 simp only [List.cons.injEq,AV.list.injEq,true_and,and_true] at h2
 cases iC_inj h0
 cases iC_inj h2.1
 cases askC_inj h2.2
 rw [Td.ext h1]
theorem enCs_inj {l m : List En} (h : l.map enC = m.map enC) : l = m := map_inj' (fun a b h => enC_inj h) h
def okE (e : En) : Prop := e.readers.length ≤ 9000 ∧ e.waiting.length ≤ 9000 ∧ e.queue.length ≤ 8000
structure Drs where
 node : Int
 ents : List En
 bd : ents.length ≤ 9000
 bde : ∀ e ∈ ents,okE e
def Drs.v (d : Drs) : AV := .agg [.int .i64 d.node, .list 41 (d.ents.map enC)]
theorem Drs.v_inj {s t : Drs} (h : s.v = t.v) : s = t := by
 obtain ⟨a,l,b,c⟩:=s
 obtain ⟨a',l',b',c'⟩:=t
 simp only [Drs.v,AV.agg.injEq,List.cons.injEq,AV.int.injEq,AV.list.injEq,true_and,and_true] at h
 obtain ⟨rfl,h⟩:=h
 cases enCs_inj h
 rfl
attribute [local simp] instA
attribute [-simp] mkv
attribute [local simp] mkv_hd hdA_cons hdA_ob hdA_ob'
def goodN (l : List Int) (j : Nat) : Bool := match l[j]? with
 | none=>true
 | some t=>okN t && match j with
   | 0=>true
   | i + 1=>match l[i]? with
     | some s=>decide (s < t)
     | none=>true
def ascN (l : List Int) : Bool := (List.range l.length).all (goodN l)
end
section
attribute [local simp] instA
end
section
attribute [local simp] instA
attribute [-simp] mkv
attribute [local simp] mkv_hd hdA_cons hdA_ob hdA_ob'
end
section
attribute [local simp] instA slice3A slice3C
attribute [-simp] mkv
attribute [local simp] mkv_hd hdA_cons hdA_ob hdA_ob'
end
section
attribute [local simp] instA
attribute [-simp] mkv
attribute [local simp] mkv_hd hdA_cons hdA_ob hdA_ob'
end
section
attribute [local simp] instA
attribute [-simp] mkv
attribute [local simp] mkv_hd hdA_cons hdA_ob hdA_ob'
@[simp] def sesC (e : En) (nd : Int) (M : AV) : List AV := .int .u64 e.id :: .int .i64 e.owner :: .list 1 (e.readers.map iC) :: (e.obj.cells ++ [.list 1 (e.waiting.map iC), .list 2 (e.queue.map askC), .int .i64 nd,M])
def graM (nd id n m : Int) (o : Ob) : Msg := ⟨nd,n,2,id,m,o,0,0,0,0⟩
noncomputable def revM (nd id n : Int) : Msg := ⟨nd,n,3,id,0,zOb,0,0,0,0⟩
structure Gr where
 e : En
 nd : Int
 ms : List Msg
 n : Int
 m : Int
 q : List (Int × Int)
 hq : e.queue = (n,m) :: q
 hl : e.queue.length ≤ 9000
 hm : ms.length ≤ 90000
noncomputable def gra_specs : NL Spec := [(25,⟨1,cobS⟩)]
attribute [local simp] gra_specs
structure De where
 e : En
 nd : Int
 ms : List Msg
 ns : List Int
 h0 : 0 < ns.length
 hl : ns.length ≤ 9100
 hm : ms.length ≤ 90000
end
section
attribute [local simp] instA
attribute [-simp] mkv
attribute [local simp] mkv_hd hdA_cons hdA_ob hdA_ob'
def srt (l : List Int) : List Int := l.mergeSort fun x y => decide (x ≤ y)
noncomputable def mgM (nd id : Int) : Dir.Mg Ob → Msg
 | .rev to=>revM nd id to
 | .grant to m o=>graM nd id to m o
structure Go where
 e : En
 nd : Int
 h1 : e.readers.length + e.queue.length ≤ 9000
 h2 : e.waiting.length ≤ 9000
 h3 : Dir.Asc e.readers
theorem cI : Try.prog.cellsOf 3 = 1 := by kernel_rfl
end
section
attribute [local simp] instA slice3A slice3C
attribute [-simp] mkv
attribute [local simp] mkv_hd hdA_cons hdA_ob hdA_ob'
end
section
attribute [local simp] instA slice3A slice3C
attribute [-simp] mkv
attribute [local simp] mkv_hd hdA_cons hdA_ob hdA_ob'
def bsD (l : List En) (id : Int) : Nat := bsF (fun k => match l[k]? with | some t => decide (t.id < id) | none => false) 0 l.length
theorem bsF_bd (c : Nat → Bool) : ∀ (d lo hi : Nat),hi - lo = d → lo ≤ hi → lo ≤ bsF c lo hi ∧ bsF c lo hi ≤ hi := by
 intro d
 induction d using Nat.strongRecOn with
 | ind d ih =>
   intro lo hi hd hl
   by_cases h : lo < hi
   · rw [bsF_lt h]
     split
     · have:=ih (hi - ((lo + hi) / 2 + 1)) (by omega) ((lo + hi) / 2 + 1) hi rfl (by omega)
       omega
     · have:=ih ((lo + hi) / 2 - lo) (by omega) lo ((lo + hi) / 2) rfl (by omega)
       omega
   · rw [bsF_ge h]
     omega
theorem bsD_le (l : List En) (id : Int) : bsD l id ≤ l.length := (bsF_bd _ _ 0 l.length rfl (by omega)).2
theorem insD_eq (elem size bytes n i : Nat) (rows : List (List AV)) (z : List AV) (hn : n = rows.length) (h1 : n ≤ 1000000) (hb : (n + 1) * bytes ≤ 140737488355328) (hi : i ≤ n) : insertC elem size bytes [.sl 0 0 0 n, .int .i64 (i : Nat), .sl 1 0 0 1] [{ gen := 0,kind := 2,elem := elem,size := size,inl := true,rows }, { gen := 0,kind := 2,elem := elem,size := size,inl := true,rows := [z] }] = some (.sl 0 1 0 (n + 1),[{ gen := 1,kind := 2,elem := elem,size := size,inl := true,rows := rows.take i ++ [z] ++ rows.drop i }, { gen := 0,kind := 2,elem := elem,size := size,inl := true,rows := [z] }]) := by
 unfold insertC
 simp only [okB,beq_self_eq_true,Bool.and_self,true_and,Int.toNat_natCast,rowB]
 rw [if_pos ⟨hn,rfl,hb,h1,by omega,by omega⟩]
end
section
attribute [local simp] instA slice3A slice3C
attribute [-simp] mkv
attribute [local simp] mkv_hd hdA_cons hdA_ob hdA_ob'
theorem uM : Try.prog.underlying 72 = some (.slice 50) := by kernel_rfl
theorem cM : Try.prog.cellsOf 50 = 45 := by kernel_rfl
theorem listR_app : ∀ {a : List AV} (_ : a.all AV.isInl = true) (l : List AV) (H : NL ABlk),listR frz0R (a ++ l) H = mapO (fun r => a ++ r) (listR frz0R l H)
 | [],_,l,H=>by
   show listR frz0R l H = _
   cases listR frz0R l H with
   | none=>rfl
   | some o=>rfl
 | x :: a,h,l,H=>by
   simp only [List.all_cons,Bool.and_eq_true] at h
   rw [List.cons_append,listR,frz0R_inl h.1,nxt_some,listR_app h.2,nxt_map, ← nxt_ret]
   rfl
@[local simp] theorem listR_ob (o : Ob) (l : List AV) (H : NL ABlk) : listR frz0R (o.cells ++ l) H = mapO (fun r => o.cells ++ r) (listR frz0R l H) := listR_app o.isInl l H
structure Fin where
 d : Drs
 e : En
 h1 : e.readers.length + e.queue.length ≤ 9000
 h2 : e.waiting.length ≤ 9000
 h3 : Dir.Asc e.readers
end
section
attribute [local simp] instA
attribute [-simp] mkv
attribute [local simp] mkv_hd hdA_cons hdA_ob hdA_ob'
end
section
attribute [local simp] instA
attribute [-simp] mkv
attribute [local simp] mkv_hd hdA_cons hdA_ob hdA_ob'
end
section

end
section
attribute [local simp] instA
attribute [-simp] mkv
attribute [local simp] mkv_hd hdA_cons hdA_ob hdA_ob'
@[simp] def hdC (h : Dir.Hd) : List AV := [.int .i64 (h.mode 0), .int .i64 (h.mode 1), .int .i64 (h.mode 2), .int .i64 (h.mode 3), .bool (h.demand 0), .bool (h.demand 1), .bool (h.demand 2), .bool (h.demand 3), .int .i64 (h.asked 0), .int .i64 (h.asked 1), .int .i64 (h.asked 2), .int .i64 (h.asked 3)]
noncomputable def mgs (nd id : Int) (l : List (Dir.Mg Ob)) : List AV := [.list 45 ((l.map (mgM nd id)).map Msg.v)]
end
section
def Pz (id : Int) (o : Ob) : Prop := (oid o == id || zO? o) = true
end
section
attribute [local simp] instA slice3A slice3C
noncomputable def rzero_specs : NL Spec := [(90,⟨1,brS⟩)]
attribute [local simp] rzero_specs
end
section
attribute [local simp] instA slice3A slice3C
attribute [-simp] mkv
attribute [local simp] mkv_hd hdA_cons hdA_ob hdA_ob'
end
section
structure Lk where
 fr : Int
 to : Int
 cut : Bool
 q : List Msg
def lkC (l : Lk) : List AV := [.int .i64 l.fr, .int .i64 l.to, .bool l.cut, .list 45 (l.q.map Msg.v)]
theorem msgv_inj {l m : List Msg} (h : l.map Msg.v = m.map Msg.v) : l = m := map_inj' (fun a b h => by
 obtain ⟨a1,a2,a3,a4,a5,o,a6,a7,a8,a9⟩:=a
 obtain ⟨b1,b2,b3,b4,b5,p,b6,b7,b8,b9⟩:=b
 simp only [Msg.v,List.cons.injEq,AV.int.injEq,true_and] at h
 obtain ⟨rfl,rfl,rfl,rfl,rfl,h⟩:=h
 obtain ⟨h1,h2⟩:=List.append_inj h (by simp)
 simp only [List.cons.injEq,AV.int.injEq,true_and,and_true] at h2
 obtain ⟨rfl,rfl,rfl,rfl⟩:=h2
 rw [Td.ext h1]) h
theorem lkC_inj {s t : Lk} (h : lkC s = lkC t) : s = t := by
 obtain ⟨a,b,c,q⟩:=s
 obtain ⟨a',b',c',q'⟩:=t
 simp only [lkC,List.cons.injEq,AV.int.injEq,AV.bool.injEq,AV.list.injEq,true_and,and_true] at h
 obtain ⟨rfl,rfl,rfl,h⟩:=h
 rw [msgv_inj h]
theorem lks_inj {l m : List Lk} (h : l.map lkC = m.map lkC) : l = m := map_inj' (fun a b h => lkC_inj h) h
def okK (l : Lk) : Prop := l.q.length ≤ 9000
structure Nts where
 ls : List Lk
 bd : ls.length ≤ 9000
 bq : ∀ l ∈ ls,okK l
def Nts.v (d : Nts) : AV := .agg [.list 4 (d.ls.map lkC)]
theorem Nts.v_inj {s t : Nts} (h : s.v = t.v) : s = t := by
 obtain ⟨l,b,c⟩:=s
 obtain ⟨l',b',c'⟩:=t
 simp only [Nts.v,AV.agg.injEq,List.cons.injEq,AV.list.injEq,true_and,and_true] at h
 cases lks_inj h
 rfl
def befB (l : Lk) (f t : Int) : Bool := decide (l.fr < f) || (l.fr == f && decide (l.to < t))
noncomputable def befS : SpecFn := mkS (fun d : {l : Lk // okK l} × Int × Int => [.agg (lkC d.1.1), .int .i64 d.2.1, .int .i64 d.2.2]) fun d => (.bool (befB d.1.1 d.2.1 d.2.2),[])
attribute [local simp] instA slice3A slice3C
attribute [-simp] mkv
attribute [local simp] mkv_hd hdA_cons hdA_ob hdA_ob'
def lkB (l : Lk) : Bool := okN l.fr && (okN l.to && (decide (l.q.length ≤ 4096) && (l.cut || !l.q.isEmpty)))
def goodK (l : List Lk) (j : Nat) : Bool := match l[j]? with
 | none=>true
 | some t=>lkB t && (t.q.all (fun m=>m.fr == t.fr && m.to == t.to) && match j with
   | 0=>true
   | i + 1=>match l[i]? with
     | some s=>befB s t.fr t.to
     | none=>true)
def validK (l : List Lk) : Bool := (List.range l.length).all (goodK l)
theorem validK_no {l : List Lk} {k : Nat} (h : k < l.length) (hg : goodK l k = false) : validK l = false := by
 unfold validK
 rw [List.all_eq_false]
 exact ⟨k,List.mem_range.2 h,by simp [hg]⟩
theorem validK_yes {l : List Lk} (h : ∀ k,k < l.length → goodK l k = true) : validK l = true := by
 unfold validK
 rw [List.all_eq_true]
 exact fun k hk=>h k (List.mem_range.1 hk)
noncomputable def vkS : SpecFn := mkS (fun d : Nts => [d.v]) fun d => (.bool (validK d.ls),[])
theorem vkS_eq (d : Nts) : vkS [d.v] [] = some (.bool (validK d.ls),[]) :=
 mkS_eq (enc:=fun d : Nts=>[d.v]) (fun x y h=>by
   simp only [List.cons.injEq,and_true] at h
   cases Nts.v_inj h
   rfl) d
noncomputable def rvk_specs21 : NL Spec := [(37,⟨1,boS okN⟩),(69,⟨1,befS⟩)]
attribute [local simp] rvk_specs21
end
section
attribute [local simp] instA slice3A slice3C
attribute [-simp] mkv
attribute [local simp] mkv_hd hdA_cons hdA_ob hdA_ob'
def lkIs (f t : Int) (l : Lk) : Bool := l.fr == f && l.to == t
def fndK (f t : Int) (ls : List Lk) : Lk := (ls.find? (lkIs f t)).getD ⟨f,t,false,[]⟩
theorem lkLeafs : leafs Try.prog 74 = [3,3,4,72] := lf74
theorem lkC_nrm (l : Lk) : nrmL Try.prog (leafs Try.prog 74) (lkC l) = lkC l := by
 rw [lkLeafs]
 simp only [lkC,nrmL,nrmV,uM,nrmRows_map msg_nrm]
theorem lkC_nrm0 (f t : Int) (c : Bool) : nrmL Try.prog (leafs Try.prog 74) [.int .i64 f, .int .i64 t, .bool c, .nils] = lkC ⟨f,t,c,[]⟩ := by
 rw [lkLeafs]
 simp only [lkC,nrmL,nrmV,uM,cM,List.map_nil]
theorem lkC_nrmR (l : Lk) : nrmR Try.prog [74] (.agg (lkC l)) = .agg (lkC l) := by
 simp only [nrmR,nrmV]
 rw [lkC_nrm]
noncomputable def fnkS : SpecFn := mkS (fun d : Nts × Int × Int => [d.1.v, .int .i64 d.2.1, .int .i64 d.2.2]) fun d => (.agg (lkC (fndK d.2.1 d.2.2 d.1.ls)),[])
def othK (x : Lk) (l : List Lk) : List Lk := l.filter (fun e => e.fr != x.fr || e.to != x.to)
def putP (x : Lk) : List Lk → List Lk
 | []=>[x]
 | e :: r=>if befB e x.fr x.to then e :: putP x r else x :: othK x (e :: r)
def restK (x : Lk) (done : Bool) (l : List Lk) : List Lk := if done then othK x l else putP x l
def putK (x : Lk) (l : List Lk) : List Lk := restK x (!x.cut && x.q.isEmpty) l
theorem putP_len (x : Lk) : ∀ l : List Lk,(putP x l).length ≤ l.length + 1
 | []=>Nat.le_refl _
 | e :: r=>by
   have h1:=putP_len x r
   have h2 : (othK x (e :: r)).length ≤ (e :: r).length:=List.length_filter_le _ _
   rw [putP]
   split
   · simp only [List.length_cons]; omega
   · simp only [List.length_cons] at h2 ⊢; omega
structure Pl where
 d : Nts
 x : Lk
 h : okK x
noncomputable def ptlS : SpecFn := mkS (fun p : Pl => [p.d.v, .agg (lkC p.x)]) fun p => (.agg [.list 4 ((putK p.x p.d.ls).map lkC)],[])
theorem uK : Try.prog.underlying 24 = some (.slice 74) := by kernel_rfl
theorem cK : Try.prog.cellsOf 74 = 4 := by kernel_rfl
theorem nwLeafs : leafs Try.prog 26 = [24] := lf26
noncomputable def ptl_specs : NL Spec := [(69,⟨1,befS⟩)]
attribute [local simp] ptl_specs
structure PlI (x : Lk) (l : List Lk) where
 k : Nat
 done : Bool
 T : List Lk
 g : Nat
 H : NL ABlk
 hk : k ≤ l.length
 hT : T.length ≤ k + done.toNat
 res : T ++ restK x done (l.drop k) = putK x l
 g3 : lk H 64 = some { gen:=1,kind:=2,elem:=74,size:=4,inl:=false,rows:=[lkC x] }
 g4 : lk H 80 = some { gen:=1,kind:=2,elem:=26,size:=1,inl:=false,rows:=[[.nils]] }
 g5 : lk H 96 = some { gen:=1,kind:=2,elem:=26,size:=1,inl:=false,rows:=[[.sl 20000 g 0 T.length]] }
 gM : lk H 20000 = some { gen:=g,kind:=2,elem:=74,size:=4,inl:=true,rows:=T.map lkC }
end
section
attribute [local simp] instA slice3A slice3C
noncomputable def nannR (x : Int) : AV := .bool false
noncomputable def nannS : SpecFn := mkS (fun p : Int => [.int .i64 p]) fun p => (nannR p,[])
theorem nann_eq (x : Int) : nannS [.int .i64 x] [] = some (nannR (x),[]) :=
 mkS_eq (enc:=fun p : Int=>[.int .i64 p]) (res:=fun p=>(nannR p,[])) (fun x y h=>by
   obtain ⟨h0,h⟩:=List.cons.inj h
   have e0:=AVi h0
   subst e0
   rfl) (x)
theorem nann_ok : FnC Try.prog 89 nannS := by
 refine FnC.walk 89 (fn:=Try.f89) Try.func89 rfl (by kernel_rfl) fun p=>?_
 revert p; intro x
 change W _ (Ret _ _ (nannR (x)) []) _ _ ⟨6,[(0, .int .i64 x)],[]⟩
 repeat' (first | intro (hb : _ = _) | refine ZV ?_ | refine ZB tm no_specs ?_ | refine ZH ?_ ?_ | refine ZJ (by conv=>lhs; simp) ?_ | refine ZA ?_ ?_)
 all_goals (first | refine Yd ?_ | refine Ye ?_)
 all_goals (first | rfl | (simp [nannR]; done) | (simp_all [nannR]; done) | (simp_all [nannR]; omega))
noncomputable def cmpnR (x : Int) (y : Int) : AV := .int .i64 (cmpI x y)
noncomputable def cmpnS : SpecFn := mkS (fun p : Int × Int => [.int .i64 p.1, .int .i64 p.2]) fun p => (cmpnR p.1 p.2,[])
theorem cmpn_eq (x : Int) (y : Int) : cmpnS [.int .i64 x, .int .i64 y] [] = some (cmpnR (x) (y),[]) :=
 mkS_eq (enc:=fun p : Int × Int=>[.int .i64 p.1, .int .i64 p.2]) (res:=fun p=>(cmpnR p.1 p.2,[])) (fun x y h=>by
   obtain ⟨a0,a1⟩:=x
   obtain ⟨b0,b1⟩:=y
   obtain ⟨h0,h⟩:=List.cons.inj h
   obtain ⟨h1,h⟩:=List.cons.inj h
   have e0:=AVi h0
   subst e0
   have e1:=AVi h1
   subst e1
   rfl) (x,y)
noncomputable def cmpn_ok_specs : NL Spec := [(89,⟨1,nannS⟩)]
theorem cmpn_ok_specs_ok : ∀ p ∈ cmpn_ok_specs,FnC Try.prog p.1 p.2.fn := by
 simp only [cmpn_ok_specs,List.mem_cons,List.not_mem_nil,or_false]
 rintro p rfl
 · exact nann_ok
attribute [local simp] cmpn_ok_specs nann_eq
theorem cmpn_ok : FnC Try.prog 68 cmpnS := by
 refine FnC.walk 68 (fn:=Try.f68) Try.func68 rfl (by kernel_rfl) fun p=>?_
 obtain ⟨x,y⟩:=p
 change W _ (Ret _ _ (cmpnR (x) (y)) []) _ _ ⟨20,[(0, .int .i64 x),(1, .int .i64 y)],[]⟩
 repeat' (first | intro (hb : _ = _) | refine ZV ?_ | refine ZB tm cmpn_ok_specs_ok ?_ | refine ZH ?_ ?_ | refine ZJ (by conv=>lhs; simp [nannR]) ?_ | refine ZA ?_ ?_)
 all_goals (first | refine Yd ?_ | refine Ye ?_)
 all_goals (first | rfl | (simp [cmpnR,cmpI]; done) | (simp_all [cmpnR,cmpI]; done) | (simp_all [cmpnR,cmpI]; omega))
attribute [-simp] mkv
attribute [local simp] mkv_hd hdA_cons hdA_ob hdA_ob'
def orI (a b : Int) : Int := if a = 0 then b else a
noncomputable def orS : SpecFn := mkS (fun d : Int × Int => [.list 1 [[.int .i64 d.1],[.int .i64 d.2]]]) fun d => (.int .i64 (orI d.1 d.2),[])
theorem orS_eq (a b : Int) : orS [.list 1 [[.int .i64 a],[.int .i64 b]]] [] = some (.int .i64 (orI a b),[]) :=
 mkS_eq (enc:=fun d : Int × Int=>[AV.list 1 [[.int .i64 d.1],[.int .i64 d.2]]]) (fun x y h=>by
   simp only [List.cons.injEq,AV.list.injEq,AV.int.injEq,true_and,and_true] at h
   rw [Prod.ext h.1 h.2]) (a,b)
theorem or_ok : FnC Try.prog 67 orS := by
 refine FnC.walk 67 (fn:=Try.f67) Try.func67 rfl (by kernel_rfl) fun d=>?_
 obtain ⟨a,b⟩:=d
 change W _ (Ret _ _ (.int .i64 (orI a b)) []) _ _ ⟨18,[(0, .list 1 [[.int .i64 a],[.int .i64 b]])],[]⟩
 obtain ⟨l,hl⟩ : ∃ l : List (List AV),l = [[.int .i64 a],[.int .i64 b]]:=⟨_,rfl⟩
 have g0 : l[0]? = some [.int .i64 a]:=by rw [hl]; rfl
 have g1 : l[1]? = some [.int .i64 b]:=by rw [hl]; rfl
 have gl : l.length = 2:=by rw [hl]; rfl
 rw [← hl]
 clear hl
 have cap : l.length ≤ 9223372036854775807:=by omega
 repeat' (first | intro (hb : _ = _) | refine ZV ?_ | refine ZB tm no_specs ?_ | refine ZH ?_ ?_ | refine ZJ (by conv=>lhs; simp [cap]) ?_ | refine ZA ?_ ?_)
 refine W.loop rfl (ι:={ q : Nat // q ≤ 2 ∧ (q = 1 → a = 0) ∧ (q = 2 → a = 0 ∧ b = 0) })
   (fun q=>⟨18,[(3, .int .i64 0),(6, .list 1 l),(7, .int .i64 l.length),(8, .int .i64 (q.1 : Nat))],[]⟩) (fun q=>2 - q.1)
   ⟨0,by omega,by omega,by omega⟩ (AS.le_of rfl ⟨rfl,rfl,rfl,rfl,trivial⟩ (fun _=>rfl)) ?_
 rintro ⟨k,hk,h1,h2⟩
 dsimp only at hk h1 h2 ⊢
 rcases (show k = 0 ∨ k = 1 ∨ k = 2 by omega) with rfl | rfl | rfl
 · have q2 : ¬ l.length ≤ 0:=by omega
   rw [gl]
   by_cases ha : a = 0
   · subst ha
     repeat' (first | intro (hb : _ = _) | refine ZV ?_ | refine ZB tm no_specs ?_ | refine ZH ?_ ?_ | refine ZJ (by conv=>lhs; simp [q2,g0]) ?_ | refine ZA ?_ ?_)
     exact ⟨⟨1,by omega,by omega,by omega⟩,by dsimp only; omega,AS.le_of rfl ⟨rfl,by simp [gl],rfl,rfl,trivial⟩ (fun _=>rfl)⟩
   · have ha' : (a != 0) = true:=by simpa using ha
     repeat' (first | intro (hb : _ = _) | refine ZV ?_ | refine ZB tm no_specs ?_ | refine ZH ?_ ?_ | refine ZJ (by conv=>lhs; simp [q2,g0,ha']) ?_ | refine ZA ?_ ?_)
     all_goals (first | refine Yd ?_ | refine Ye ?_)
     all_goals (first | rfl | (simp [orI,ha]; done) | (simp_all [orI,ha]; done) | (simp_all [orI,ha]; omega))
 · have ha:=h1 rfl
   subst ha
   rw [gl]
   have q2 : ¬ l.length ≤ 1:=by omega
   by_cases hb : b = 0
   · subst hb
     repeat' (first | intro (hb : _ = _) | refine ZV ?_ | refine ZB tm no_specs ?_ | refine ZH ?_ ?_ | refine ZJ (by conv=>lhs; simp [q2,g1]) ?_ | refine ZA ?_ ?_)
     exact ⟨⟨2,by omega,by omega,fun _=>⟨rfl,rfl⟩⟩,by dsimp only; omega,AS.le_of rfl ⟨rfl,by simp [gl],rfl,rfl,trivial⟩ (fun _=>rfl)⟩
   · have hb' : (b != 0) = true:=by simpa using hb
     repeat' (first | intro (hb : _ = _) | refine ZV ?_ | refine ZB tm no_specs ?_ | refine ZH ?_ ?_ | refine ZJ (by conv=>lhs; simp [q2,g1,hb']) ?_ | refine ZA ?_ ?_)
     all_goals (first | refine Yd ?_ | refine Ye ?_)
     all_goals (first | rfl | (simp [orI]; done) | (simp_all [orI]; done) | (simp_all [orI]; omega))
 · obtain ⟨ha,hb⟩:=h2 rfl
   subst ha hb
   rw [gl]
   repeat' (first | intro (hb : _ = _) | refine ZV ?_ | refine ZB tm no_specs ?_ | refine ZH ?_ ?_ | refine ZJ (by conv=>lhs; simp) ?_ | refine ZA ?_ ?_)
   all_goals (first | refine Yd ?_ | refine Ye ?_)
   all_goals (first | rfl | (simp [orI]; done) | (simp_all [orI]; done) | (simp_all [orI]; omega))
def cmL (l : Lk) (f t : Int) : Int := orI (cmpI l.fr f) (cmpI l.to t)
theorem cmL_lt (l : Lk) (f t : Int) : (cmL l f t < 0) ↔ befB l f t = true := by
 unfold cmL orI befB cmpI
 simp only [Bool.or_eq_true,Bool.and_eq_true,decide_eq_true_eq,beq_iff_eq]
 split <;> split <;> (try split) <;> (try split) <;> omega
theorem cmL_eq (l : Lk) (f t : Int) : (cmL l f t == 0) = lkIs f t l := by
 have : cmL l f t = 0 ↔ lkIs f t l = true:=by
   unfold cmL orI lkIs cmpI
   simp only [Bool.and_eq_true,beq_iff_eq]
   split <;> split <;> (try split) <;> (try split) <;> omega
 rw [Bool.eq_iff_iff]
 simpa using this
noncomputable def cmlS : SpecFn := mkS (fun d : {l : Lk // okK l} × Int × Int => [.agg (lkC d.1.1), .agg [.int .i64 d.2.1, .int .i64 d.2.2]]) fun d => (.int .i64 (cmL d.1.1 d.2.1 d.2.2),[])
theorem cmlS_eq (l : Lk) (h : okK l) (f t : Int) : cmlS [.agg (lkC l), .agg [.int .i64 f, .int .i64 t]] [] = some (.int .i64 (cmL l f t),[]) :=
 mkS_eq (enc:=fun d : {l : Lk // okK l} × Int × Int=>[AV.agg (lkC d.1.1), .agg [.int .i64 d.2.1, .int .i64 d.2.2]]) (res:=fun d=>(.int .i64 (cmL d.1.1 d.2.1 d.2.2),[])) (fun x y h=>by
   obtain ⟨a,b,c⟩:=x
   obtain ⟨a',b',c'⟩:=y
   simp only [List.cons.injEq,AV.agg.injEq,AV.int.injEq,true_and,and_true] at h
   obtain ⟨h1,rfl,rfl⟩:=h
   rw [Subtype.ext (lkC_inj h1)]) (⟨l,h⟩,f,t)
noncomputable def cml_specs : NL Spec := [(68,⟨1,cmpnS⟩),(67,⟨1,orS⟩)]
theorem cml_specs_ok : ∀ p ∈ cml_specs,FnC Try.prog p.1 p.2.fn := by
 simp only [cml_specs,List.mem_cons,List.not_mem_nil,or_false]
 rintro p (rfl | rfl)
 · exact cmpn_ok
 · exact or_ok
attribute [local simp] cml_specs
theorem cml_ok : FnC Try.prog 35 cmlS := by
 refine FnC.walk 35 (fn:=Try.f35) Try.func35 rfl (by kernel_rfl) fun d=>?_
 obtain ⟨⟨⟨a,b,c,q⟩,hl⟩,f,t⟩:=d
 change W _ (Ret _ _ (.int .i64 (orI (cmpI a f) (cmpI b t))) []) _ _ ⟨17,[(0, .agg [.int .i64 a, .int .i64 b, .bool c, .list 45 (q.map Msg.v)]),(1, .agg [.int .i64 f, .int .i64 t])],[]⟩
 have c1:=cmpn_eq a f
 have c2:=cmpn_eq b t
 have c3:=orS_eq (cmpI a f) (cmpI b t)
 simp only [cmpnR] at c1 c2
 have m2' : (2 : Nat) ≤ maxLen:=by decide
 repeat' (first | intro (hb : _ = _) | refine ZV ?_ | refine ZB tm cml_specs_ok ?_ | refine ZH ?_ ?_ | refine ZJ (by conv=>lhs; simp [c1,c2,c3,m2']) ?_ | refine ZA ?_ ?_)
 all_goals (first | refine Yd ?_ | refine Ye ?_)
 all_goals (first | rfl | (simp; done) | (simp_all; done) | (simp_all; omega))
def bsN (l : List Lk) (f t : Int) : Nat := bsF (fun k => match l[k]? with | some x => befB x f t | none => false) 0 l.length
def hasN (l : List Lk) (k : Nat) (f t : Int) : Bool := match l[k]? with | some x => lkIs f t x | none => false
noncomputable def bsnS : SpecFn := mkS (fun d : Nts × Int × Int => [.list 4 (d.1.ls.map lkC), .agg [.int .i64 d.2.1, .int .i64 d.2.2], .fn (.func 35) [] []]) fun d => (.tup [.int .i64 (bsN d.1.ls d.2.1 d.2.2 : Nat), .bool (hasN d.1.ls (bsN d.1.ls d.2.1 d.2.2) d.2.1 d.2.2)],[])
theorem bsnS_eq (d : Nts) (f t : Int) : bsnS [.list 4 (d.ls.map lkC), .agg [.int .i64 f, .int .i64 t], .fn (.func 35) [] []] [] = some (.tup [.int .i64 (bsN d.ls f t : Nat), .bool (hasN d.ls (bsN d.ls f t) f t)],[]) :=
 mkS_eq (enc:=fun d : Nts × Int × Int=>[AV.list 4 (d.1.ls.map lkC), .agg [.int .i64 d.2.1, .int .i64 d.2.2], .fn (.func 35) [] []]) (res:=fun d=>(.tup [.int .i64 (bsN d.1.ls d.2.1 d.2.2 : Nat), .bool (hasN d.1.ls (bsN d.1.ls d.2.1 d.2.2) d.2.1 d.2.2)],[])) (fun x y h=>by
   obtain ⟨⟨a,ha,hb⟩,b,c⟩:=x
   obtain ⟨⟨a',ha',hb'⟩,b',c'⟩:=y
   simp only [List.cons.injEq,AV.agg.injEq,AV.list.injEq,AV.int.injEq,true_and,and_true] at h
   obtain ⟨h1,rfl,rfl⟩:=h
   cases lks_inj h1
   rfl) (d,f,t)
noncomputable def bsn_specs : NL Spec := [(35,⟨0,cmlS⟩)]
theorem bsn_specs_ok : ∀ p ∈ bsn_specs,FnC Try.prog p.1 p.2.fn := by
 simp only [bsn_specs,List.mem_cons,List.not_mem_nil,or_false]
 rintro p rfl
 exact cml_ok
attribute [local simp] bsn_specs
theorem bsn_ok : FnC Try.prog 52 bsnS := by
 refine FnC.walk 52 (fn:=Try.f52) Try.func52 rfl (by kernel_rfl) fun d=>?_
 obtain ⟨⟨l,lh,lq⟩,f,t⟩:=d
 change W _ (Ret _ _ (.tup [.int .i64 (bsN l f t : Nat), .bool (hasN l (bsN l f t) f t)]) []) _ _ ⟨49,[(0, .list 4 (l.map lkC)),(1, .agg [.int .i64 f, .int .i64 t]),(2, .fn (.func 35) [] [])],[]⟩
 have cap : l.length ≤ 9223372036854775807:=by omega
 repeat' (first | intro (hb : _ = _) | refine ZV ?_ | refine ZB tm bsn_specs_ok ?_ | refine ZH ?_ ?_ | refine ZJ (by conv=>lhs; simp [cap]) ?_ | refine ZA ?_ ?_)
 obtain ⟨B,hE⟩ : ∃ B,bsN l f t = B:=⟨_,rfl⟩
 have hB:=hE
 unfold bsN at hB
 generalize hC : (fun (k : Nat)=>match l[k]? with | some (x : Lk)=>befB x f t | none=>false) = C at hB
 refine W.loop rfl (ι:={ q : Nat × Nat × NL ABlk // q.1 ≤ q.2.1 ∧ q.2.1 ≤ l.length ∧ bsF C q.1 q.2.1 = B ∧ (lk q.2.2 80 = some { gen:=1,kind:=2,elem:=45,size:=2,inl:=false,rows:=[[.int .i64 f, .int .i64 t]] }) })
   (fun q=>⟨49,[(0, .list 4 (l.map lkC)),(2, .fn (.func 35) [] []),(4, .ptr 80 1 0 0),(8, .int .i64 l.length),(9, .int .i64 (q.1.1 : Nat)),(10, .int .i64 (q.1.2.1 : Nat))],q.1.2.2⟩) (fun q=>q.1.2.1 - q.1.1)
   ⟨(0,l.length,_),by simp,by simp,hB,rfl⟩ (AS.le_of rfl ⟨rfl,rfl,rfl,rfl,rfl,rfl,trivial⟩ (fun _=>rfl)) ?_
 rintro ⟨⟨lo,hi,h⟩,h1,h2,h3,h4⟩
 dsimp only at h1 h2 h3 h4 ⊢
 by_cases hlt : lo < hi
 · rw [bsF_lt hlt] at h3
   have q1 : (lo : Int) < hi:=by omega
   obtain ⟨m,hm⟩ : ∃ m,(lo + hi) / 2 = m:=⟨_,rfl⟩
   rw [hm] at h3
   obtain ⟨x,hx⟩:=get_lt (l:=l) (i:=m) (by omega)
   have hg : (l.map lkC)[m]? = some (lkC x):=by rw [List.getElem?_map,hx]; rfl
   have q2 : ¬ l.length ≤ m:=by omega
   have hw : IntKind.i64.wrap ((m : Int) + 1) = ((m + 1 : Nat) : Int):=w64 (by omega) (by omega)
   have hcm : C m = befB x f t:=by rw [← hC]; simp only [hx]
   rw [hcm] at h3
   clear hlt
   have hh:=half (lo:=lo) (hi:=hi) (by omega)
   rw [hm] at hh
   have cc:=cmlS_eq x (lq x (List.mem_of_getElem? hx)) f t
   have cl:=cmL_lt x f t
   generalize cmL x f t = cv at cc cl
   obtain ⟨a1,a2,a3,q⟩:=x
   simp only [lkC] at hg cc
   by_cases hlt2 : cv < 0
   · rw [if_pos (cl.1 hlt2)] at h3
     repeat' (first | intro (hb : _ = _) | refine ZV ?_ | refine ZB tm bsn_specs_ok ?_ | refine ZH ?_ ?_ | refine ZJ (by conv=>lhs; simp [q1,hh,q2,hg,cc,hw,h4,hlt2]) ?_ | refine ZA ?_ ?_)
     exact ⟨⟨(m + 1,hi,_),by dsimp only; omega,h2,h3,by simp [lk_st,h4]⟩,by dsimp only; omega,AS.le_of rfl ⟨rfl,rfl,rfl,rfl,rfl,rfl,trivial⟩ (fun _=>rfl)⟩
   · rw [if_neg (fun c=>hlt2 (cl.2 c))] at h3
     repeat' (first | intro (hb : _ = _) | refine ZV ?_ | refine ZB tm bsn_specs_ok ?_ | refine ZH ?_ ?_ | refine ZJ (by conv=>lhs; simp [q1,hh,q2,hg,cc,hw,h4,hlt2]) ?_ | refine ZA ?_ ?_)
     exact ⟨⟨(lo,m,_),by dsimp only; omega,by dsimp only; omega,h3,by simp [lk_st,h4]⟩,by dsimp only; omega,AS.le_of rfl ⟨rfl,rfl,rfl,rfl,rfl,rfl,trivial⟩ (fun _=>rfl)⟩
 · rw [bsF_ge hlt] at h3
   subst h3
   have q1 : ¬ (lo : Int) < hi:=by omega
   have e1 : lo = hi:=by omega
   subst e1
   by_cases hz : lo < l.length
   · obtain ⟨x,hx⟩:=get_lt (l:=l) (i:=lo) (by omega)
     have hg : (l.map lkC)[lo]? = some (lkC x):=by rw [List.getElem?_map,hx]; rfl
     have q2 : ¬ l.length ≤ lo:=by omega
     have q3 : (lo : Int) < l.length:=by omega
     have cc:=cmlS_eq x (lq x (List.mem_of_getElem? hx)) f t
     have cl:=cmL_eq x f t
     have hh : hasN l lo f t = lkIs f t x:=by simp only [hasN,hx]
     rw [hE,hh]
     generalize cmL x f t = cv at cc cl
     generalize lkIs f t x = bv at *
     obtain ⟨a1,a2,a3,q⟩:=x
     simp only [lkC] at hg cc
     clear hlt hz hh
     repeat' (first | intro (hb : _ = _) | refine ZV ?_ | refine ZB tm bsn_specs_ok ?_ | refine ZH ?_ ?_ | refine ZJ (by conv=>lhs; simp [q1,q2,q3,hg,cc,h4,cl]) ?_ | refine ZA ?_ ?_)
     all_goals (first | refine Yd ?_ | refine Ye ?_)
     all_goals (first | rfl | (simp; done) | (simp_all; done) | (simp_all; omega))
   · have q3 : ¬ (lo : Int) < l.length:=by omega
     have q4 : l[lo]? = none:=by simp; omega
     have hh : hasN l lo f t = false:=by simp only [hasN,q4]
     rw [hE,hh]
     clear hlt hz
     repeat' (first | intro (hb : _ = _) | refine ZV ?_ | refine ZB tm bsn_specs_ok ?_ | refine ZH ?_ ?_ | refine ZJ (by conv=>lhs; simp [q1,q3,h4]) ?_ | refine ZA ?_ ?_)
     all_goals (first | refine Yd ?_ | refine Ye ?_)
     all_goals (first | rfl | (simp; done) | (simp_all; done) | (simp_all; omega))
end
section
attribute [local simp] instA slice3A slice3C
theorem clones64_ok : FnC Try.prog 64 (cloneC 74 4 48) ∧ FnC Try.prog 65 (cloneC 50 45 536) := by
 refine ⟨FnC.ofV 64 (fn:=Try.f64) Try.func64 rfl (by kernel_rfl) fun args B r B' hS=>?_,FnC.ofV 65 (fn:=Try.f65) Try.func65 rfl (by kernel_rfl) fun args B r B' hS=>?_⟩
 all_goals
   unfold cloneC at hS
   split at hS
   · simp only [Option.some.injEq,Prod.mk.injEq] at hS
     obtain ⟨rfl,rfl⟩:=hS
     refine ⟨by simp, ?_⟩
     change V _ (RetM _ _ 0 _ _) _ _ ⟨8,[(0, .nils)],[]⟩
     repeat (first | refine YS ?_ | refine V.region tm no_specs rfl (by conv=>lhs; simp) fun _=>?_ | refine YL tm no_specs rfl (by conv=>lhs; simp) fun _=>?_)
     exact Ym [] []
   · rename_i s rows
     split at hS
     · rename_i hc
       obtain ⟨rfl,h1,h1',h2⟩:=hc
       simp only [Option.some.injEq,Prod.mk.injEq] at hS
       obtain ⟨rfl,rfl⟩:=hS
       refine ⟨by simp, ?_⟩
       change V _ (RetM _ _ 0 _ _) _ _ ⟨8,[(0, .list _ rows)],[]⟩
       cases rows with
       | nil =>
         refine V.nilCase (t:=0)  0 rfl rfl ?_ ?_
         · repeat (first | refine YU ?_ | refine V.region tm no_specs rfl (by conv=>lhs; simp) fun _=>?_ | refine YL tm no_specs rfl (by conv=>lhs; simp) fun _=>?_)
           refine YP (t:=2) 100 ?_
           repeat (first | refine YS ?_ | refine V.region tm no_specs rfl (by conv=>lhs; simp) fun _=>?_ | refine YL tm no_specs rfl (by conv=>lhs; simp) fun _=>?_)
           simp only [List.length_nil,rowB]
           exact Ym [100] [0]
         · repeat (first | refine YS ?_ | refine V.region tm no_specs rfl (by conv=>lhs; simp) fun _=>?_ | refine YL tm no_specs rfl (by conv=>lhs; simp) fun _=>?_)
           simp only [List.length_nil,rowB]
           exact Ym [96] [0]
       | cons x rows =>
         simp only [List.length_cons] at h1 h2 h1'
         try simp only [Nat.mul_one] at h1
         repeat (first | refine YS ?_ | refine V.region tm no_specs rfl (by conv=>lhs; simp [h1,h2,h1']) fun _=>?_ | refine YL tm no_specs rfl (by conv=>lhs; simp [h1,h2,h1']) fun _=>?_)
         simp only [List.length_cons,rowB]
         exact Ym [96] [0]
     · cases hS
   · rename_i len b
     split at hS
     · rename_i hc
       obtain ⟨hb,rfl,h1,h2⟩:=hc
       simp only [Option.some.injEq,Prod.mk.injEq] at hS
       obtain ⟨rfl,rfl⟩:=hS
       rw [okB_eq hb]
       generalize b.rows = rows at h1 h2 ⊢
       refine ⟨by simp, ?_⟩
       change V _ (RetM _ _ 1 _ _) _ _ ⟨8,[(0, .sl 0 0 0 rows.length)],[(0, { gen:=0,kind:=2,elem:=_,size:=_,inl:=true,rows })]⟩
       cases rows with
       | nil =>
         refine V.slNil (t:=0) 1 rfl rfl rfl rfl ?_ ?_
         · repeat (first | refine YU ?_ | refine V.region tm no_specs rfl (by conv=>lhs; simp) fun _=>?_ | refine YL tm no_specs rfl (by conv=>lhs; simp) fun _=>?_)
           refine YQ (t:=2) 100 ?_
           repeat (first | refine YS ?_ | refine V.region tm no_specs rfl (by conv=>lhs; simp) fun _=>?_ | refine YL tm no_specs rfl (by conv=>lhs; simp) fun _=>?_)
           simp only [List.length_nil,rowB]
           exact Ym [0,100] [0,0]
         · repeat (first | refine YS ?_ | refine V.region tm no_specs rfl (by conv=>lhs; simp) fun _=>?_ | refine YL tm no_specs rfl (by conv=>lhs; simp) fun _=>?_)
           simp only [List.length_nil,rowB]
           exact Ym [0,96] [0,0]
       | cons x rows =>
         simp only [List.length_cons] at h1 h2
         try simp only [Nat.mul_one] at h1
         repeat (first | refine YS ?_ | refine V.region tm no_specs rfl (by conv=>lhs; simp [h1,h2]) fun _=>?_ | refine YL tm no_specs rfl (by conv=>lhs; simp [h1,h2]) fun _=>?_)
         simp only [List.length_cons,rowB]
         exact Ym [0,96] [0,0]
     · cases hS
   · cases hS
theorem clone64_ok : FnC Try.prog 64 (cloneC 74 4 48) := clones64_ok.1
theorem clone65_ok : FnC Try.prog 65 (cloneC 50 45 536) := clones64_ok.2
attribute [-simp] mkv
attribute [local simp] mkv_hd hdA_cons hdA_ob hdA_ob'
theorem set_selfN {α : Type} {l : List α} {k : Nat} {x : α} (h : l[k]? = some x) : l.set k x = l := by
 apply List.ext_getElem?
 intro i
 rw [List.getElem?_set]
 split
 · rename_i e
   subst e
   obtain ⟨h1,h2⟩:=List.getElem?_eq_some_iff.1 h
   rw [if_pos h1,h]
 · rfl
def qB (g : Nat) (q : List Msg) : ABlk := { gen := g,kind := 2,elem := 50,size := 45,inl := true,rows := q.map Msg.v }
def oB (g : Nat) (b : Bool) (rows : List (List AV)) : ABlk := { gen := g,kind := 2,elem := 74,size := 4,inl := b,rows := rows }
def rowQ (x : Lk) (a : AV) : List AV := [.int .i64 x.fr, .int .i64 x.to, .bool x.cut,a]
theorem clnL (l : List Lk) (h : l.length ≤ 9000) : cloneC 74 4 48 [.list 4 (l.map lkC)] [] = some (.sl 0 0 0 l.length,[{ gen := 0,kind := 2,elem := 74,size := 4,inl := true,rows := l.map lkC }]) := by
 have e1 : l.length * 48 ≤ 140737488355328:=by omega
 have e2 : l.length ≤ 9223372036854775807:=by omega
 have e3 : l.length ≤ maxLen:=by simp only [maxLen]; omega
 simp [cloneC,e1,e2,e3,rowB]
theorem clnM (l : List Msg) (h : l.length ≤ 9000) : cloneC 50 45 536 [.list 45 (l.map Msg.v)] [] = some (.sl 0 0 0 l.length,[{ gen := 0,kind := 2,elem := 50,size := 45,inl := true,rows := l.map Msg.v }]) := by
 have e1 : l.length * 536 ≤ 140737488355328:=by omega
 have e2 : l.length ≤ 9223372036854775807:=by omega
 have e3 : l.length ≤ maxLen:=by simp only [maxLen]; omega
 simp [cloneC,e1,e2,e3,rowB]
noncomputable def cpn_specs : NL Spec := [(64,⟨3,cloneC 74 4 48⟩),(65,⟨3,cloneC 50 45 536⟩),(25,⟨1,cobS⟩)]
theorem cpn_specs_ok : ∀ p ∈ cpn_specs,FnC Try.prog p.1 p.2.fn := by
 simp only [cpn_specs,List.mem_cons,List.not_mem_nil,or_false]
 rintro p (rfl | rfl | rfl)
 · exact clone64_ok
 · exact clone65_ok
 · exact cob_ok
attribute [local simp] cpn_specs
noncomputable def cpnS : SpecFn := mkS2 (fun d : Nts => ([.list 4 (d.ls.map lkC)],[])) fun d => (.sl 0 0 0 d.ls.length,[oB 0 true (d.ls.map lkC)])
theorem cpnS_eq (d : Nts) : cpnS [.list 4 (d.ls.map lkC)] [] = some (.sl 0 0 0 d.ls.length,[oB 0 true (d.ls.map lkC)]) :=
 mkS2_eq (enc:=fun d : Nts=>([AV.list 4 (d.ls.map lkC)],([] : List ABlk))) (res:=fun d=>(.sl 0 0 0 d.ls.length,[oB 0 true (d.ls.map lkC)])) (fun x y h=>by
   obtain ⟨a,ha,hb⟩:=x
   obtain ⟨a',ha',hb'⟩:=y
   simp only [Prod.mk.injEq,List.cons.injEq,AV.list.injEq,true_and,and_true] at h
   cases lks_inj h
   rfl) d
noncomputable def cpqS (i : Nat) : SpecFn := mkS2 (fun d : {d : Nts × Lk // d.1.ls[i]? = some d.2} => ([.list 4 (d.1.1.ls.map lkC)],[])) fun d => (.sl 0 0 0 d.1.1.ls.length,[oB 0 false ((d.1.1.ls.map lkC).set i (rowQ d.1.2 (.sl 1 0 0 d.1.2.q.length))),qB 0 d.1.2.q])
theorem cpqS_eq (i : Nat) (d : Nts) (x : Lk) (h : d.ls[i]? = some x) : cpqS i [.list 4 (d.ls.map lkC)] [] = some (.sl 0 0 0 d.ls.length,[oB 0 false ((d.ls.map lkC).set i (rowQ x (.sl 1 0 0 x.q.length))),qB 0 x.q]) :=
 mkS2_eq (enc:=fun d : {d : Nts × Lk // d.1.ls[i]? = some d.2}=>([AV.list 4 (d.1.1.ls.map lkC)],([] : List ABlk))) (res:=fun d=>(.sl 0 0 0 d.1.1.ls.length,[oB 0 false ((d.1.1.ls.map lkC).set i (rowQ d.1.2 (.sl 1 0 0 d.1.2.q.length))),qB 0 d.1.2.q])) (fun x y h=>by
   obtain ⟨⟨⟨a,ha,hb⟩,b⟩,hx⟩:=x
   obtain ⟨⟨⟨a',ha',hb'⟩,b'⟩,hy⟩:=y
   simp only [Prod.mk.injEq,List.cons.injEq,AV.list.injEq,true_and,and_true] at h
   cases lks_inj h
   dsimp only at hx hy
   rw [hx] at hy
   cases hy
   rfl) ⟨(d,x),h⟩
theorem cpn_ok : FnC Try.prog 31 cpnS := by
 refine FnC.walkB 31 (fn:=Try.f31) Try.func31 rfl (by kernel_rfl) (fun x b hb=>by simp at hb) fun d=>?_
 obtain ⟨l,lh,lq⟩:=d
 change W _ (RetB _ _ 0 (.sl 0 0 0 l.length) [oB 0 true (l.map lkC)]) _ _ ⟨43,[(0, .list 4 (l.map lkC))],[]⟩
 have cap : l.length ≤ 9223372036854775807:=by omega
 have cc:=clnL l lh
 repeat' (first | intro (hb : _ = _) | refine ZV ?_ | refine ZB tm cpn_specs_ok ?_ | refine ZH ?_ ?_ | refine ZJ (by conv=>lhs; simp [cap,cc]) ?_ | refine ZA ?_ ?_)
 refine W.loop rfl (ι:={ p : Nat × NL ABlk // p.1 ≤ l.length ∧ lk p.2 144 = some (oB 1 true (l.map lkC)) })
   (fun p=>⟨43,[(3, .sl 144 1 0 l.length),(10, .int .i64 l.length),(11, .int .i64 (p.1.1 : Nat))],p.1.2⟩) (fun p=>l.length - p.1.1)
   ⟨(0,_),by simp,rfl⟩ (AS.le_of rfl ⟨rfl,rfl,rfl,trivial⟩ (fun _=>rfl)) ?_
 rintro ⟨⟨k,h⟩,hk,h1⟩
 dsimp only at hk h1 ⊢
 have h1':=h1
 simp only [oB] at h1
 by_cases hk2 : k = l.length
 · subst hk2
   have q1 : ¬ (l.length : Int) < l.length:=by omega
   repeat' (first | intro (hb : _ = _) | refine ZV ?_ | refine ZB tm cpn_specs_ok ?_ | refine ZH ?_ ?_ | refine ZJ (by conv=>lhs; simp [q1,h1]) ?_ | refine ZA ?_ ?_)
   exact RetB.raw [144] rfl (by conv=>lhs; simp) (by decide) (by simp) (by simp [h1,oB]) (by simp [List.idxOf?,List.findIdx?,List.findIdx?.go,h1])
 · obtain ⟨x,hx⟩:=get_lt (l:=l) (i:=k) (by omega)
   have hm : (l.map lkC)[k]? = some (lkC x):=by rw [List.getElem?_map,hx]; rfl
   have q1 : (k : Int) < l.length:=by omega
   have q2 : ¬ l.length ≤ k:=by omega
   have hw : IntKind.i64.wrap ((k : Int) + 1) = ((k + 1 : Nat) : Int):=w64 (by omega) (by omega)
   have hs:=set_selfN hm
   have hq:=lq x (List.mem_of_getElem? hx)
   obtain ⟨a,b,c,q⟩:=x
   have hq : q.length ≤ 9000:=hq
   have cm:=clnM q hq
   have capq : q.length ≤ 9223372036854775807:=by omega
   simp only [lkC] at hm hs
   repeat' (first | intro (hb : _ = _) | refine ZV ?_ | refine ZB tm cpn_specs_ok ?_ | refine ZH ?_ ?_ | refine ZJ (by conv=>lhs; simp [q1,q2,hm,h1,cm,capq]) ?_ | refine ZA ?_ ?_)
   obtain ⟨G,hG⟩ : ∃ G,((lk h 320).getD { }).gen + 1 = G:=⟨_,rfl⟩
   rw [hG]
   refine W.loop rfl (ι:={ p : Nat × NL ABlk // p.1 ≤ q.length ∧ lk p.2 144 = some (oB 1 true (l.map lkC)) ∧ lk p.2 320 = some (qB G q) })
     (fun p=>⟨43,[(3, .sl 144 1 0 l.length),(4, .int .i64 (k : Nat)),(5, .sl 320 G 0 q.length),(10, .int .i64 l.length),(11, .int .i64 (k : Nat)),(21, .int .i64 q.length),(22, .int .i64 (p.1.1 : Nat))],p.1.2⟩) (fun p=>q.length - p.1.1)
     ⟨(0,_),by simp,by simp [lk_st,h1'],by simp [lk_st,qB]⟩ (AS.le_of rfl ⟨rfl,rfl,rfl,rfl,rfl,rfl,rfl,trivial⟩ (fun _=>rfl)) ?_
   clear h1 h1' hG cm
   clear h
   rintro ⟨⟨j,h⟩,hj,h1,h2⟩
   dsimp only at hj h1 h2 ⊢
   have h1':=h1
   have h2':=h2
   simp only [oB] at h1
   simp only [qB] at h2
   by_cases hj2 : j = q.length
   · subst hj2
     have y1 : ¬ (q.length : Int) < q.length:=by omega
     repeat' (first | intro (hb : _ = _) | refine ZV ?_ | refine ZB (id:=7) tm cpn_specs_ok ?_ | refine ZH ?_ ?_ | refine ZJ (by conv=>lhs; simp [y1]) ?_ | refine ZA ?_ ?_)
     have tk : List.take q.length (q.map Msg.v) = q.map Msg.v:=List.take_of_length_le (by simp)
     refine W.frz 5 rfl (by conv=>lhs; simp [frqT,frqV,frqVs,frqL,frq1,frz1,h2,tk]) ?_
     repeat' (first | intro (hb : _ = _) | refine ZV ?_ | refine ZB tm cpn_specs_ok ?_ | refine ZH ?_ ?_ | refine ZJ (by conv=>lhs; simp [h1,hs,q1,q2,hm,hw]) ?_ | refine ZA ?_ ?_)
     exact ⟨⟨(k + 1,_),by dsimp only; omega,by simp [lk_st,h1,oB]⟩,by dsimp only; omega,AS.le_of rfl ⟨rfl,rfl,rfl,trivial⟩ (fun _=>rfl)⟩
   · obtain ⟨m,hxm⟩:=get_lt (l:=q) (i:=j) (by omega)
     have hmm : (q.map Msg.v)[j]? = some m.v:=by rw [List.getElem?_map,hxm]; rfl
     have y1 : (j : Int) < q.length:=by omega
     have y2 : ¬ q.length ≤ j:=by omega
     have hw2 : IntKind.i64.wrap ((j : Int) + 1) = ((j + 1 : Nat) : Int):=w64 (by omega) (by omega)
     have hs2:=set_selfN hmm
     have co:=cobS_eq m.obj
     obtain ⟨b1,b2,b3,b4,b5,o,b6,b7,b8,b9⟩:=m
     simp only [Msg.v] at hmm hs2 co
     repeat' (first | intro (hb : _ = _) | refine ZV ?_ | refine ZB tm cpn_specs_ok ?_ | refine ZH ?_ ?_ | refine ZJ (by conv=>lhs; simp [y1,y2,hmm,h2,co,hs2,hw2]) ?_ | refine ZA ?_ ?_)
     exact ⟨⟨(j + 1,_),by dsimp only; omega,by simp [lk_st,h1'],by simp [lk_st,qB]⟩,by dsimp only; omega,AS.le_of rfl ⟨rfl,rfl,rfl,rfl,rfl,rfl,rfl,trivial⟩ (fun _=>rfl)⟩
theorem renL_lkC (f : Nat → Nat → Option (Nat × Nat)) (x : Lk) : renL f (lkC x) = lkC x := by simp [renL,lkC,AV.ren]
theorem renR_lkC (f : Nat → Nat → Option (Nat × Nat)) (l : List Lk) : (l.map lkC).map (renL f) = l.map lkC := by
 rw [List.map_map]
 apply List.map_congr_left
 intro x _
 exact renL_lkC f x
theorem renR_comp (f : Nat → Nat → Option (Nat × Nat)) (l : List Lk) : List.map (renL f ∘ lkC) l = l.map lkC := by
 have:=renR_lkC f l
 rwa [List.map_map] at this
theorem cpq_ok (i0 : Nat) : FnC Try.prog 31 (cpqS i0) := by
 refine FnC.walkB 31 (fn:=Try.f31) Try.func31 rfl (by kernel_rfl) (fun x b hb=>by simp at hb) fun d=>?_
 obtain ⟨⟨⟨l,lh,lq⟩,x0⟩,hx0⟩:=d
 dsimp only at hx0
 have hi0 : i0 < l.length:=(List.getElem?_eq_some_iff.1 hx0).1
 change W _ (RetB _ _ 0 (.sl 0 0 0 l.length) [oB 0 false ((l.map lkC).set i0 (rowQ x0 (.sl 1 0 0 x0.q.length))),qB 0 x0.q]) _ _ ⟨43,[(0, .list 4 (l.map lkC))],[]⟩
 have cap : l.length ≤ 9223372036854775807:=by omega
 have cc:=clnL l lh
 repeat' (first | intro (hb : _ = _) | refine ZV ?_ | refine ZB tm cpn_specs_ok ?_ | refine ZH ?_ ?_ | refine ZJ (by conv=>lhs; simp [cap,cc]) ?_ | refine ZA ?_ ?_)
 refine W.setI 144 false rfl rfl (fun c=>by cases c) ?_
 refine W.loop rfl (ι:={ p : Nat × NL ABlk × List (List AV) // p.1 ≤ l.length ∧ lk p.2.1 144 = some (oB 1 false p.2.2) ∧ ((p.1 ≤ i0 ∧ p.2.2 = l.map lkC ∧ lk p.2.1 7 = none) ∨ (i0 < p.1 ∧ p.2.2 = (l.map lkC).set i0 (rowQ x0 (.sl 7 0 0 x0.q.length)) ∧ lk p.2.1 7 = some (qB 0 x0.q))) })
   (fun p=>⟨43,[(3, .sl 144 1 0 l.length),(10, .int .i64 l.length),(11, .int .i64 (p.1.1 : Nat))],p.1.2.1⟩) (fun p=>l.length - p.1.1)
   ⟨(0,_,l.map lkC),by simp,rfl, .inl ⟨Nat.zero_le _,rfl,rfl⟩⟩ (AS.le_of rfl ⟨rfl,rfl,rfl,trivial⟩ (fun _=>rfl)) ?_
 rintro ⟨⟨k,h,R⟩,hk,h1,h7⟩
 dsimp only at hk h1 h7 ⊢
 by_cases hk2 : k = l.length
 · subst hk2
   rcases h7 with ⟨c,_⟩ | ⟨-,hR,h7⟩
   · omega
   subst hR
   have q1 : ¬ (l.length : Int) < l.length:=by omega
   simp only [oB] at h1
   simp only [qB] at h7
   repeat' (first | intro (hb : _ = _) | refine ZV ?_ | refine ZB tm cpn_specs_ok ?_ | refine ZH ?_ ?_ | refine ZJ (by conv=>lhs; simp [q1,h1]) ?_ | refine ZA ?_ ?_)
   exact RetB.raw [144,7] rfl (by conv=>lhs; simp) (by decide) (by simp) (by simp [h1,h7,oB,qB,List.map_set,renR_comp,rowQ,renL,AV.ren,List.idxOf?,List.findIdx?,List.findIdx?.go]) (by simp [List.idxOf?,List.findIdx?,List.findIdx?.go,h1])
 · obtain ⟨x,hx⟩:=get_lt (l:=l) (i:=k) (by omega)
   have hmR : k ≠ i0 ∨ (k = i0 ∧ x = x0):=by
     by_cases e : k = i0
     · subst e
       rw [hx] at hx0
       cases hx0
       exact .inr ⟨rfl,rfl⟩
     · exact .inl e
   have hm : R[k]? = some (lkC x):=by
     have h0 : (l.map lkC)[k]? = some (lkC x):=by rw [List.getElem?_map,hx]; rfl
     rcases h7 with ⟨_,rfl,_⟩ | ⟨c,rfl,_⟩
     · exact h0
     · rw [List.getElem?_set,if_neg (by omega)]
       exact h0
   have hRl : R.length = l.length:=by rcases h7 with ⟨_,rfl,_⟩ | ⟨c,rfl,_⟩ <;> simp
   have q1 : (k : Int) < l.length:=by omega
   have q2 : ¬ l.length ≤ k:=by omega
   have hw : IntKind.i64.wrap ((k : Int) + 1) = ((k + 1 : Nat) : Int):=w64 (by omega) (by omega)
   have hs:=set_selfN hm
   have hq:=lq x (List.mem_of_getElem? hx)
   obtain ⟨a,b,c,q⟩:=x
   have hq : q.length ≤ 9000:=hq
   have cm:=clnM q hq
   have capq : q.length ≤ 9223372036854775807:=by omega
   simp only [lkC] at hm hs
   have h1':=h1
   simp only [oB] at h1
   repeat' (first | intro (hb : _ = _) | refine ZV ?_ | refine ZB tm cpn_specs_ok ?_ | refine ZH ?_ ?_ | refine ZJ (by conv=>lhs; simp [q1,q2,hm,h1,cm,capq,hRl]) ?_ | refine ZA ?_ ?_)
   obtain ⟨G,hG⟩ : ∃ G,((lk h 320).getD { }).gen + 1 = G:=⟨_,rfl⟩
   rw [hG]
   refine W.loop rfl (ι:={ p : Nat × NL ABlk // p.1 ≤ q.length ∧ lk p.2 144 = some (oB 1 false R) ∧ lk p.2 320 = some (qB G q) ∧ lk p.2 7 = lk h 7 })
     (fun p=>⟨43,[(3, .sl 144 1 0 l.length),(4, .int .i64 (k : Nat)),(5, .sl 320 G 0 q.length),(10, .int .i64 l.length),(11, .int .i64 (k : Nat)),(21, .int .i64 q.length),(22, .int .i64 (p.1.1 : Nat))],p.1.2⟩) (fun p=>q.length - p.1.1)
     ⟨(0,_),by simp,by simp [lk_st,h1'],by simp [lk_st,qB],by simp [lk_st]⟩ (AS.le_of rfl ⟨rfl,rfl,rfl,rfl,rfl,rfl,rfl,trivial⟩ (fun _=>rfl)) ?_
   clear h1 h1' hG cm
   generalize lk h 7 = V7 at *
   clear h
   rintro ⟨⟨j,h⟩,hj,h1,h2,h3⟩
   dsimp only at hj h1 h2 h3 ⊢
   have h1':=h1
   have h2':=h2
   simp only [oB] at h1
   simp only [qB] at h2
   by_cases hj2 : j = q.length
   · subst hj2
     have y1 : ¬ (q.length : Int) < q.length:=by omega
     repeat' (first | intro (hb : _ = _) | refine ZV ?_ | refine ZB (id:=7) tm cpn_specs_ok ?_ | refine ZH ?_ ?_ | refine ZJ (by conv=>lhs; simp [y1]) ?_ | refine ZA ?_ ?_)
     rcases hmR with hne | ⟨rfl,hx⟩
     · have tk : List.take q.length (q.map Msg.v) = q.map Msg.v:=List.take_of_length_le (by simp)
       refine W.frz 5 rfl (by conv=>lhs; simp [frqT,frqV,frqVs,frqL,frq1,frz1,h2,tk]) ?_
       repeat' (first | intro (hb : _ = _) | refine ZV ?_ | refine ZB tm cpn_specs_ok ?_ | refine ZH ?_ ?_ | refine ZJ (by conv=>lhs; simp [h1,hs,q1,q2,hm,hw,hRl]) ?_ | refine ZA ?_ ?_)
       exact ⟨⟨(k + 1,_,R),by dsimp only; omega,by simp [lk_st,h1,oB],by
         simp only [lk_st,h3]
         rcases h7 with ⟨p1,p2,p3⟩ | ⟨p1,p2,p3⟩
         · exact .inl ⟨by omega,p2,by simp [p3]⟩
         · exact .inr ⟨by omega,p2,by simp [p3]⟩⟩,by dsimp only; omega,AS.le_of rfl ⟨rfl,rfl,rfl,trivial⟩ (fun _=>rfl)⟩
     · rcases h7 with ⟨p1,p2,p3⟩ | ⟨p1,p2,p3⟩
       · rw [p3] at h3
         refine W.mv 5 7 rfl h2 rfl rfl h3 ?_
         subst p2
         repeat' (first | intro (hb : _ = _) | refine ZV ?_ | refine ZB tm cpn_specs_ok ?_ | refine ZH ?_ ?_ | refine ZJ (by conv=>lhs; simp [h1,q1,q2,hm,hw,hRl]) ?_ | refine ZA ?_ ?_)
         exact ⟨⟨(k + 1,_,(l.map lkC).set k (rowQ x0 (.sl 7 0 0 x0.q.length))),by dsimp only; omega,by simp [lk_st,lk,oB,rowQ, ← hx], .inr ⟨by dsimp only; omega,rfl,by simp [lk_st,lk,qB, ← hx]⟩⟩,by dsimp only; omega,AS.le_of rfl ⟨rfl,rfl,rfl,trivial⟩ (fun _=>rfl)⟩
       · omega
   · obtain ⟨m,hxm⟩:=get_lt (l:=q) (i:=j) (by omega)
     have hmm : (q.map Msg.v)[j]? = some m.v:=by rw [List.getElem?_map,hxm]; rfl
     have y1 : (j : Int) < q.length:=by omega
     have y2 : ¬ q.length ≤ j:=by omega
     have hw2 : IntKind.i64.wrap ((j : Int) + 1) = ((j + 1 : Nat) : Int):=w64 (by omega) (by omega)
     have hs2:=set_selfN hmm
     have co:=cobS_eq m.obj
     obtain ⟨b1,b2,b3,b4,b5,o,b6,b7,b8,b9⟩:=m
     simp only [Msg.v] at hmm hs2 co
     repeat' (first | intro (hb : _ = _) | refine ZV ?_ | refine ZB tm cpn_specs_ok ?_ | refine ZH ?_ ?_ | refine ZJ (by conv=>lhs; simp [y1,y2,hmm,h2,co,hs2,hw2]) ?_ | refine ZA ?_ ?_)
     exact ⟨⟨(j + 1,_),by dsimp only; omega,by simp [lk_st,h1'],by simp [lk_st,qB],by simp [lk_st,h3]⟩,by dsimp only; omega,AS.le_of rfl ⟨rfl,rfl,rfl,rfl,rfl,rfl,rfl,trivial⟩ (fun _=>rfl)⟩
end
section
attribute [local simp] instA slice3A slice3C
attribute [-simp] mkv
attribute [local simp] mkv_hd hdA_cons hdA_ob hdA_ob'
def rowsQ (l : List Lk) (i : Nat) (x : Lk) (a : AV) : List (List AV) := (l.map lkC).set i (rowQ x a)
theorem rowsQ_len (l : List Lk) (i : Nat) (x : Lk) (a : AV) : (rowsQ l i x a).length = l.length := by simp [rowsQ]
theorem rowsQ_get {l : List Lk} {i k : Nat} {x y : Lk} {a : AV} (hi : l[i]? = some x) (hk : l[k]? = some y) : (rowsQ l i x a)[k]? = some (if k = i then rowQ x a else lkC y) := by
 unfold rowsQ
 rw [List.getElem?_set]
 by_cases e : i = k
 · subst e
   rw [if_pos rfl,if_pos rfl,if_pos (by simpa using (List.getElem?_eq_some_iff.1 hi).1)]
 · rw [if_neg e,if_neg (fun c=>e c.symm),List.getElem?_map,hk]
   rfl
abbrev LkAt (i : Nat) := {d : Nts × Lk // d.1.ls[i]? = some d.2}
def encQ (i : Nat) (d : LkAt i × Int × Int) : List AV × List ABlk := ([.sl 0 0 0 d.1.1.1.ls.length, .agg [.int .i64 d.2.1, .int .i64 d.2.2], .fn (.func 35) [] []],[oB 0 false (rowsQ d.1.1.1.ls i d.1.1.2 (.sl 1 0 0 d.1.1.2.q.length)),qB 0 d.1.1.2.q])
theorem rowsQ_inj {i : Nat} {d e : LkAt i} (h : rowsQ d.1.1.ls i d.1.2 (.sl 1 0 0 d.1.2.q.length) = rowsQ e.1.1.ls i e.1.2 (.sl 1 0 0 e.1.2.q.length)) (hq : d.1.2.q.map Msg.v = e.1.2.q.map Msg.v) : d = e := by
 obtain ⟨⟨⟨l,a,b⟩,x⟩,hx⟩:=d
 obtain ⟨⟨⟨l',a',b'⟩,y⟩,hy⟩:=e
 dsimp only at h hq hx hy
 have hq:=msgv_inj hq
 have hlen : l.length = l'.length:=by
   have:=congrArg List.length h
   rwa [rowsQ_len,rowsQ_len] at this
 have hxy : x = y:=by
   have h1:=rowsQ_get (a := .sl 1 0 0 x.q.length) hx hx
   have h2:=rowsQ_get (a := .sl 1 0 0 y.q.length) hy hy
   rw [h,h2,if_pos rfl,if_pos rfl] at h1
   obtain ⟨x1,x2,x3,x4⟩:=x
   obtain ⟨y1,y2,y3,y4⟩:=y
   simp only [rowQ,Option.some.injEq,List.cons.injEq,AV.int.injEq,AV.bool.injEq,true_and] at h1
   dsimp only at hq
   rw [← h1.1, ← h1.2.1, ← h1.2.2.1,hq]
 subst hxy
 have : l = l':=by
   apply List.ext_getElem?
   intro k
   by_cases hk : k < l.length
   · obtain ⟨y,hy1⟩:=get_lt hk
     obtain ⟨z,hz1⟩:=get_lt (l:=l') (i:=k) (by omega)
     rw [hy1,hz1]
     by_cases e : k = i
     · subst e
       rw [hx] at hy1
       rw [hy] at hz1
       cases hy1
       cases hz1
       rfl
     · have h1:=rowsQ_get (a := .sl 1 0 0 x.q.length) hx hy1
       have h2:=rowsQ_get (a := .sl 1 0 0 x.q.length) hy hz1
       rw [h,h2,if_neg e,if_neg e] at h1
       simp only [Option.some.injEq] at h1
       rw [lkC_inj h1]
   · rw [List.getElem?_eq_none (by omega),List.getElem?_eq_none (by omega)]
 subst this
 rfl
theorem encQ_inj {i : Nat} {β : Type} {f : LkAt i × Int × Int → β} : ∀ x y,encQ i x = encQ i y → f x = f y := fun x y h => by
 obtain ⟨d,a,b⟩:=x
 obtain ⟨d',a',b'⟩:=y
 simp only [encQ,oB,qB,Prod.mk.injEq,List.cons.injEq,AV.agg.injEq,AV.int.injEq,ABlk.mk.injEq,true_and,and_true] at h
 obtain ⟨⟨-,rfl,rfl⟩,h1,h2⟩:=h
 rw [rowsQ_inj h1 h2]
noncomputable def bsqS (i : Nat) : SpecFn := mkS2 (encQ i) fun d => (.tup [.int .i64 (bsN d.1.1.1.ls d.2.1 d.2.2 : Nat), .bool (hasN d.1.1.1.ls (bsN d.1.1.1.ls d.2.1 d.2.2) d.2.1 d.2.2)],[oB 0 false (rowsQ d.1.1.1.ls i d.1.1.2 (.sl 1 0 0 d.1.1.2.q.length)),qB 0 d.1.1.2.q])
theorem bsqS_eq (i : Nat) (d : Nts) (x : Lk) (h : d.ls[i]? = some x) (f t : Int) : bsqS i [.sl 0 0 0 d.ls.length, .agg [.int .i64 f, .int .i64 t], .fn (.func 35) [] []] [oB 0 false (rowsQ d.ls i x (.sl 1 0 0 x.q.length)),qB 0 x.q] = some (.tup [.int .i64 (bsN d.ls f t : Nat), .bool (hasN d.ls (bsN d.ls f t) f t)],[oB 0 false (rowsQ d.ls i x (.sl 1 0 0 x.q.length)),qB 0 x.q]) :=
 mkS2_eq (enc:=encQ i) (res:=fun d=>(.tup [.int .i64 (bsN d.1.1.1.ls d.2.1 d.2.2 : Nat), .bool (hasN d.1.1.1.ls (bsN d.1.1.1.ls d.2.1 d.2.2) d.2.1 d.2.2)],[oB 0 false (rowsQ d.1.1.1.ls i d.1.1.2 (.sl 1 0 0 d.1.1.2.q.length)),qB 0 d.1.1.2.q])) encQ_inj (⟨(d,x),h⟩,f,t)
attribute [local simp] bsn_specs
theorem bsq_ok (i : Nat) : FnC Try.prog 52 (bsqS i) := by
 refine FnC.walkB 52 (fn:=Try.f52) Try.func52 rfl (by kernel_rfl) (fun x b hb=>by simp [encQ] at hb; rcases hb with rfl | rfl <;> rfl) fun d=>?_
 obtain ⟨⟨⟨⟨l,lh,lq⟩,x0⟩,hx0⟩,f,t⟩:=d
 dsimp only at hx0
 change W _ (RetB _ _ 2 (.tup [.int .i64 (bsN l f t : Nat), .bool (hasN l (bsN l f t) f t)]) [oB 0 false (rowsQ l i x0 (.sl 1 0 0 x0.q.length)),qB 0 x0.q]) _ _ ⟨49,[(0, .sl 0 0 0 l.length),(1, .agg [.int .i64 f, .int .i64 t]),(2, .fn (.func 35) [] [])],[(0,oB 0 false (rowsQ l i x0 (.sl 1 0 0 x0.q.length))),(1,qB 0 x0.q)]⟩
 have cap : l.length ≤ 9223372036854775807:=by omega
 have hRl:=rowsQ_len l i x0 (.sl 1 0 0 x0.q.length)
 have hRg:=fun k y (hk : l[k]? = some y)=>rowsQ_get (a := .sl 1 0 0 x0.q.length) hx0 hk
 generalize hR : rowsQ l i x0 (.sl 1 0 0 x0.q.length) = R at *
 have tk : List.take x0.q.length (x0.q.map Msg.v) = x0.q.map Msg.v:=List.take_of_length_le (by simp)
 have cap2 : x0.q.length ≤ 9000:=lq x0 (List.mem_of_getElem? hx0)
 repeat' (first | intro (hb : _ = _) | refine ZV ?_ | refine ZB tm bsn_specs_ok ?_ | refine ZH ?_ ?_ | refine ZJ (by conv=>lhs; simp [cap,oB,qB]) ?_ | refine ZA ?_ ?_)
 obtain ⟨B,hE⟩ : ∃ B,bsN l f t = B:=⟨_,rfl⟩
 have hB:=hE
 unfold bsN at hB
 generalize hC : (fun (k : Nat)=>match l[k]? with | some (x : Lk)=>befB x f t | none=>false) = C at hB
 refine W.loop rfl (ι:={ q : Nat × Nat × NL ABlk // q.1 ≤ q.2.1 ∧ q.2.1 ≤ l.length ∧ bsF C q.1 q.2.1 = B ∧ (lk q.2.2 80 = some { gen:=1,kind:=2,elem:=45,size:=2,inl:=false,rows:=[[.int .i64 f, .int .i64 t]] }) ∧ lk q.2.2 0 = some (oB 0 false R) ∧ lk q.2.2 1 = some (qB 0 x0.q) })
   (fun q=>⟨49,[(0, .sl 0 0 0 l.length),(2, .fn (.func 35) [] []),(4, .ptr 80 1 0 0),(8, .int .i64 l.length),(9, .int .i64 (q.1.1 : Nat)),(10, .int .i64 (q.1.2.1 : Nat))],q.1.2.2⟩) (fun q=>q.1.2.1 - q.1.1)
   ⟨(0,l.length,_),by simp,by simp,hB,rfl,rfl,rfl⟩ (AS.le_of rfl ⟨rfl,rfl,rfl,rfl,rfl,rfl,trivial⟩ (fun _=>rfl)) ?_
 rintro ⟨⟨lo,hi,h⟩,h1,h2,h3,h4,h5,h6⟩
 dsimp only at h1 h2 h3 h4 h5 h6 ⊢
 have h5':=h5
 have h6':=h6
 simp only [oB] at h5
 simp only [qB] at h6
 by_cases hlt : lo < hi
 · rw [bsF_lt hlt] at h3
   have q1 : (lo : Int) < hi:=by omega
   obtain ⟨m,hm⟩ : ∃ m,(lo + hi) / 2 = m:=⟨_,rfl⟩
   rw [hm] at h3
   obtain ⟨x,hx⟩:=get_lt (l:=l) (i:=m) (by omega)
   have hg:=hRg m x hx
   have q2 : ¬ l.length ≤ m:=by omega
   have q5 : (m : Int) < l.length:=by omega
   have hw : IntKind.i64.wrap ((m : Int) + 1) = ((m + 1 : Nat) : Int):=w64 (by omega) (by omega)
   have hcm : C m = befB x f t:=by rw [← hC]; simp only [hx]
   rw [hcm] at h3
   clear hlt
   have hh:=half (lo:=lo) (hi:=hi) (by omega)
   rw [hm] at hh
   have cc:=cmlS_eq x (lq x (List.mem_of_getElem? hx)) f t
   have cl:=cmL_lt x f t
   generalize cmL x f t = cv at cc cl
   have hxx : m = i → x = x0:=fun e=>by subst e; rw [hx] at hx0; cases hx0; rfl
   obtain ⟨a1,a2,a3,q⟩:=x
   by_cases hmi : m = i
   · have hxx:=hxx hmi
     subst hxx
     dsimp only at tk h6 cap2
     rw [if_pos hmi] at hg
     simp only [rowQ] at hg
     simp only [lkC] at cc
     clear hmi
     by_cases hlt2 : cv < 0
     · rw [if_pos (cl.1 hlt2)] at h3
       repeat' (first | intro (hb : _ = _) | refine ZV ?_ | refine ZB tm bsn_specs_ok ?_ | refine ZH ?_ ?_ | refine ZJ (by conv=>lhs; simp [q1,hh,q2,q5,hg,cc,hw,h4,h5,h6,hRl,tk,hlt2]) ?_ | refine ZA ?_ ?_)
       exact ⟨⟨(m + 1,hi,_),by dsimp only; omega,h2,h3,by simp [lk_st,h4],by simp [lk_st,h5'],by simp [lk_st,h6']⟩,by dsimp only; omega,AS.le_of rfl ⟨rfl,rfl,rfl,rfl,rfl,rfl,trivial⟩ (fun _=>rfl)⟩
     · rw [if_neg (fun c=>hlt2 (cl.2 c))] at h3
       repeat' (first | intro (hb : _ = _) | refine ZV ?_ | refine ZB tm bsn_specs_ok ?_ | refine ZH ?_ ?_ | refine ZJ (by conv=>lhs; simp [q1,hh,q2,q5,hg,cc,hw,h4,h5,h6,hRl,tk,hlt2]) ?_ | refine ZA ?_ ?_)
       exact ⟨⟨(lo,m,_),by dsimp only; omega,by dsimp only; omega,h3,by simp [lk_st,h4],by simp [lk_st,h5'],by simp [lk_st,h6']⟩,by dsimp only; omega,AS.le_of rfl ⟨rfl,rfl,rfl,rfl,rfl,rfl,trivial⟩ (fun _=>rfl)⟩
   · rw [if_neg hmi] at hg
     simp only [lkC] at hg cc
     clear hmi hxx
     by_cases hlt2 : cv < 0
     · rw [if_pos (cl.1 hlt2)] at h3
       repeat' (first | intro (hb : _ = _) | refine ZV ?_ | refine ZB tm bsn_specs_ok ?_ | refine ZH ?_ ?_ | refine ZJ (by conv=>lhs; simp [q1,hh,q2,q5,hg,cc,hw,h4,h5,h6,hRl,tk,hlt2]) ?_ | refine ZA ?_ ?_)
       exact ⟨⟨(m + 1,hi,_),by dsimp only; omega,h2,h3,by simp [lk_st,h4],by simp [lk_st,h5'],by simp [lk_st,h6']⟩,by dsimp only; omega,AS.le_of rfl ⟨rfl,rfl,rfl,rfl,rfl,rfl,trivial⟩ (fun _=>rfl)⟩
     · rw [if_neg (fun c=>hlt2 (cl.2 c))] at h3
       repeat' (first | intro (hb : _ = _) | refine ZV ?_ | refine ZB tm bsn_specs_ok ?_ | refine ZH ?_ ?_ | refine ZJ (by conv=>lhs; simp [q1,hh,q2,q5,hg,cc,hw,h4,h5,h6,hRl,tk,hlt2]) ?_ | refine ZA ?_ ?_)
       exact ⟨⟨(lo,m,_),by dsimp only; omega,by dsimp only; omega,h3,by simp [lk_st,h4],by simp [lk_st,h5'],by simp [lk_st,h6']⟩,by dsimp only; omega,AS.le_of rfl ⟨rfl,rfl,rfl,rfl,rfl,rfl,trivial⟩ (fun _=>rfl)⟩
 · rw [bsF_ge hlt] at h3
   subst h3
   have q1 : ¬ (lo : Int) < hi:=by omega
   have e1 : lo = hi:=by omega
   subst e1
   have fin : ∀ bv : Bool,hasN l lo f t = bv → ∀ σ,resVs Try.prog σ Try.f52.results.toList = some [.int .i64 (lo : Nat), .bool bv] → lk σ.heap 0 = some (oB 0 false R) → lk σ.heap 1 = some (qB 0 x0.q) → RetB Try.prog Try.f52 2 (.tup [.int .i64 (lo : Nat), .bool (hasN l lo f t)]) [oB 0 false R,qB 0 x0.q] σ:=fun bv hbv σ hr g0 g1=>by
     rw [hbv]
     exact RetB.raw [0,1] rfl hr (by decide) (by intro i hi; rcases (show i = 0 ∨ i = 1 by omega) with rfl | rfl <;> simp [g0,g1,oB,qB]) (by
       have : R.map (renL (expF [0,1] σ.heap)) = R:=by
         rw [← hR,rowsQ,List.map_set,renR_lkC]
         congr 1
         simp [rowQ,renL,AV.ren,List.idxOf?,List.findIdx?,List.findIdx?.go,expF,g1,qB]
       simp [expB2,g0,g1,oB,qB,renB,this]) (by simp [pack,AV.ren,renL])
   by_cases hz : lo < l.length
   · obtain ⟨x,hx⟩:=get_lt (l:=l) (i:=lo) (by omega)
     have hg:=hRg lo x hx
     have q2 : ¬ l.length ≤ lo:=by omega
     have q3 : (lo : Int) < l.length:=by omega
     have cc:=cmlS_eq x (lq x (List.mem_of_getElem? hx)) f t
     have cl:=cmL_eq x f t
     have hh : hasN l lo f t = lkIs f t x:=by simp only [hasN,hx]
     rw [hE]
     generalize cmL x f t = cv at cc cl
     generalize lkIs f t x = bv at *
     have fin:=fin bv hh
     have hxx : lo = i → x = x0:=fun e=>by subst e; rw [hx] at hx0; cases hx0; rfl
     obtain ⟨a1,a2,a3,q⟩:=x
     clear hlt hz hh
     by_cases hmi : lo = i
     · have hxx:=hxx hmi
       subst hxx
       dsimp only at tk h6 cap2
       rw [if_pos hmi] at hg
       simp only [rowQ] at hg
       simp only [lkC] at cc
       clear hmi
       repeat' (first | intro (hb : _ = _) | refine ZV ?_ | refine ZB tm bsn_specs_ok ?_ | refine ZH ?_ ?_ | refine ZJ (by conv=>lhs; simp [q1,q2,q3,hg,cc,h4,h5,h6,hRl,tk,cl]) ?_ | refine ZA ?_ ?_)
       exact fin _ rfl (by simp [lk_st,h5']) (by simp [lk_st,h6'])
     · rw [if_neg hmi] at hg
       simp only [lkC] at hg cc
       clear hmi hxx
       repeat' (first | intro (hb : _ = _) | refine ZV ?_ | refine ZB tm bsn_specs_ok ?_ | refine ZH ?_ ?_ | refine ZJ (by conv=>lhs; simp [q1,q2,q3,hg,cc,h4,h5,h6,hRl,tk,cl]) ?_ | refine ZA ?_ ?_)
       exact fin _ rfl (by simp [lk_st,h5']) (by simp [lk_st,h6'])
   · have q3 : ¬ (lo : Int) < l.length:=by omega
     have q4 : l[lo]? = none:=by simp; omega
     have hh : hasN l lo f t = false:=by simp only [hasN,q4]
     have fin:=fin false hh
     rw [hE]
     clear hlt hz
     repeat' (first | intro (hb : _ = _) | refine ZV ?_ | refine ZB tm bsn_specs_ok ?_ | refine ZH ?_ ?_ | refine ZJ (by conv=>lhs; simp [q1,q3,h4,hRl]) ?_ | refine ZA ?_ ?_)
     exact fin _ rfl (by simp [lk_st,h5']) (by simp [lk_st,h6'])
end
end Go.Abs.Nn
